-- by a program of this session (wip/ak/pw.py)
import Derived.Test.YtlladicdmmdboaaAk2
import Derived.KernelRfl
import Derived.Test.YtlladicdmmdboaaChecked
set_option synthInstance.maxSize 20000
set_option synthInstance.maxHeartbeats 400000
set_option maxRecDepth 100000
set_option maxHeartbeats 4000000
set_option linter.unusedVariables false
set_option linter.unusedSimpArgs false
namespace Go.AK
open Go Go.Proofs
def c_u8 (x : Int) : List Cell := [.sc (.int .u8 x)]
theorem c_u8_w (x : Int) : (c_u8 x).length = 1 := rfl
structure S63 where
  f0 : Int
  f1 : Int
  f2 : Int
def z63 : S63 := ⟨0, 0, 0⟩
theorem S63.eta (x : S63) : (⟨x.f0, x.f1, x.f2⟩ : S63) = x := rfl
def c63 (x : S63) : List Cell := [.sc (.int .i64 x.f0), .sc (.int .i64 x.f1), .sc (.int .u32 x.f2)]
theorem c63_w (x : S63) : (c63 x).length = 3 := rfl
def c_i64 (x : Int) : List Cell := [.sc (.int .i64 x)]
theorem c_i64_w (x : Int) : (c_i64 x).length = 1 := rfl
structure S68 where
  f0 : Int
  f1 : Int
  f2 : Int
def z68 : S68 := ⟨0, 0, 0⟩
theorem S68.eta (x : S68) : (⟨x.f0, x.f1, x.f2⟩ : S68) = x := rfl
def c68 (x : S68) : List Cell := [.sc (.int .i64 x.f0), .sc (.int .u32 x.f1), .sc (.int .i64 x.f2)]
theorem c68_w (x : S68) : (c68 x).length = 3 := rfl
structure S66 where
  f0 : Int
  f1 : (List S68)
  f2 : (List Int)
  f3 : Int
  f4 : Int
def z66 : S66 := ⟨0, ([] : (List S68)), ([] : (List Int)), 0, 0⟩
theorem S66.eta (x : S66) : (⟨x.f0, x.f1, x.f2, x.f3, x.f4⟩ : S66) = x := rfl
def c66 (x : S66) : List Cell := [.sc (.int .i64 x.f0), .own 3 x.f1.length (encL c68 x.f1), .own 1 x.f2.length (encL c_i64 x.f2), .sc (.int .i64 x.f3), .sc (.int .i64 x.f4)]
theorem c66_w (x : S66) : (c66 x).length = 5 := rfl
/-! ### spec.l1Begin: function 68 -/
def C68_l0 : AC := .seq (.seq (.reg [.op none (.mv 8 (.tmp 4)), .op none (.mv 9 (.tmp 0)), .op none (.len 10 (.tmp 9)), .op none (.bin 11 .lss (.tmp 8) (.tmp 10)), .keep [0, 2, 3, 4, 11]]) (.cond (.tmp 11) (.skip) (.gh (.exit 0)))) (.seq (.block 1 (.regD (.first (.op none (.faddr 14 2 (.tmp 3))) (.first (.op none (.load 15 false 1 (.tmp 14))) (.first (.op none (.mv 16 (.tmp 0))) (.first (.op none (.mv 17 (.tmp 4))) (.first (.op none (.iaddr 18 1 (.tmp 16) (.tmp 17))) (.first (.op none (.load 19 false 1 (.tmp 18))) (.first (.op none (.conv 20 .u64 (.tmp 19))) (.first (.op none (.bin 21 .xor (.tmp 15) (.tmp 20))) (.first (.op none (.bin 22 .mul (.tmp 21) (.const (.int .u64 1099511628211)))) (.first (.op none (.faddr 23 2 (.tmp 3))) (.alt (.op none (.store 1 (.tmp 23) (.tmp 22))) none (.done) (.stop)))))))))))) [0, 2, 3, 4])) (.reg [.op none (.mv 12 (.tmp 4)), .op none (.bin 13 .add (.tmp 12) (.const (.int .i64 1))), .op none (.mv 4 (.tmp 13)), .keep [0, 2, 3, 4]]))
def C68 : AC := .seq (.reg [.op none (.alloc 2 [.slice none 0 0, .int .i64 0, .int .u64 0]), .gh, .keep [0, 2]]) (.seq (.reg [.op none (.mv 5 (.tmp 0)), .op none (.build 6 [.slice none 0 0, .int .i64 0, .int .u64 0] [(0, 1, .tmp 5)]), .gh, .op none (.alloc 3 [.slice none 0 0, .int .i64 0, .int .u64 0]), .gh, .op none (.store 3 (.tmp 3) (.tmp 6)), .keep [0, 2, 3]]) (.seq (.reg [.op none (.faddr 7 2 (.tmp 3)), .op none (.store 1 (.tmp 7) (.const (.int .u64 1469598103934665603))), .keep [0, 2, 3]]) (.seq (.seq (.reg [.op none (.mv 4 (.const (.int .i64 0))), .keep [0, 2, 3, 4]]) (.block 0 (.gh (.loop (.ga C68_l0))))) (.seq (.reg [.op none (.load 24 true 3 (.tmp 3)), .op none (.store 3 (.tmp 2) (.tmp 24)), .keep [2]]) (.ret)))))
def r68 : List RV := [.cell 2 true 3]
theorem k68 : compC Try.prog 25 C68 (Try.f68.body.getD .skip) = some C68.erase := by kernel_rfl
theorem q68 : rvsOf Try.prog Try.f68.results.toList = some r68 := by kernel_rfl
def spec_l1Begin.l0 (l0 : List Int) (x0_1 : (List Int)) (x0_2 : Int) (x0_3 : Int) (x0_4 : Int) (x0_0 : Int) (x0_5 : Int) : Option Int := (if x0_0 < (l0.length : Int) then (if 0 ≤ x0_0 ∧ x0_0 < (l0.length : Int) then (spec_l1Begin.l0 l0 x0_1 x0_2 x0_3 x0_4 (IntKind.i64.wrap (x0_0 + 1)) (IntKind.u64.wrap ((bits .xor .u64 x0_5 (IntKind.u64.wrap (rd 0 l0 x0_0))) * 1099511628211))) else none) else (some x0_5))
  partial_fixpoint
def spec_l1Begin.f (l0 : List Int) : Option (Int × Int) := (spec_l1Begin.l0 l0 ([] : List Int) 0 0 0 0 1469598103934665603 >>= fun (y14 : Int) => (some (0, y14)))
def spec_l1Begin.l0_M (cs0 : List Cell) (o0 : Nat) (l0 : List Int) (hv0 : Vw c_u8 1 cs0 o0 l0) (x0_1 : (List Int)) (x0_2 : Int) (x0_3 : Int) (x0_4 : Int) (x0_0 : Int) (x0_5 : Int) (y : Int) : Prop := ∀ (K : AE → St → Prop), (K (.exit 0) ⟨[(2, .c (.ptr (.tmp 2 0) [] 0)), (3, .c (.ptr (.tmp 3 0) [] 0))], [(.arg 0, ⟨.fz, 1, cs0⟩), (.tmp 2 0, ⟨.box, 0, [.own 1 x0_1.length (encL c_u8 x0_1), .sc (.int .i64 x0_2), .sc (.int .u64 x0_3)]⟩), (.tmp 3 0, ⟨.box, 0, [.ref (.arg 0) [] o0 l0.length, .sc (.int .i64 x0_4), .sc (.int .u64 y)]⟩)], [], []⟩) → loopS Try.prog 25 (.ga C68_l0) K ⟨[(0, .c (.ref (.arg 0) [] o0 l0.length)), (2, .c (.ptr (.tmp 2 0) [] 0)), (3, .c (.ptr (.tmp 3 0) [] 0)), (4, .c (.sc (.int .i64 x0_0)))], [(.arg 0, ⟨.fz, 1, cs0⟩), (.tmp 2 0, ⟨.box, 0, [.own 1 x0_1.length (encL c_u8 x0_1), .sc (.int .i64 x0_2), .sc (.int .u64 x0_3)]⟩), (.tmp 3 0, ⟨.box, 0, [.ref (.arg 0) [] o0 l0.length, .sc (.int .i64 x0_4), .sc (.int .u64 x0_5)]⟩)], [], []⟩
theorem spec_l1Begin.l0_walk (cs0 : List Cell) (o0 : Nat) (l0 : List Int) (hv0 : Vw c_u8 1 cs0 o0 l0) (x0_1 : (List Int)) (x0_2 : Int) (x0_3 : Int) (x0_4 : Int) (x0_0 : Int) (x0_5 : Int) (y : Int) (h : spec_l1Begin.l0 l0 x0_1 x0_2 x0_3 x0_4 x0_0 x0_5 = some y) : spec_l1Begin.l0_M cs0 o0 l0 hv0 x0_1 x0_2 x0_3 x0_4 x0_0 x0_5 y := by
  refine spec_l1Begin.l0.partial_correctness l0 x0_1 x0_2 x0_3 x0_4 (motive := fun x0_0 x0_5 y => spec_l1Begin.l0_M cs0 o0 l0 hv0 x0_1 x0_2 x0_3 x0_4 x0_0 x0_5 y) ?_ x0_0 x0_5 y h
  clear h
  unfold spec_l1Begin.l0_M
  intro rec ih x0_0 x0_5 y h K hx0
  refine loop_unroll (ga_k fun G0 G0n G0r G0x => ?_)
  unfold C68_l0
  refine seq_k fun J7 hJ7 => ?_
  refine sr_k fun J8 hJ8 => ?_
  simp +decide only [Nat.reduceAdd, Nat.reduceMul, Int.reduceToNat, ak]
  refine hJ8 _ ?_
  refine cond_k (b := decide (x0_0 < (l0.length : Int))) rfl (fun c9 => ?_) (fun c9 => ?_)
  · replace c9 := of_decide_eq_true c9; rw [if_pos c9] at h
    refine hJ7 _ ?_
    refine seq_k fun J10 hJ10 => ?_
    refine block_k fun B11 B11n B11x B11r B11j => ?_
    refine regD_k ?_
    obtain ⟨b12, h⟩ := of_guard h
    have g13 : (cs0)[o0 + x0_0.toNat * 1]? = some (.sc (.int .u8 (rd 0 l0 x0_0))) := hv0.get 0 0 b12.1 b12.2 (by decide)
    simp +decide only [Nat.reduceAdd, Nat.reduceMul, Int.reduceToNat, ak, b12, g13]
    refine alt_e ?_
    · simp +decide only [Nat.reduceAdd, Nat.reduceMul, Int.reduceToNat, ak]
      refine B11n _ ?_
      refine hJ10 _ ?_
      refine reg_k ?_
      simp +decide only [Nat.reduceAdd, Nat.reduceMul, Int.reduceToNat, ak]
      refine G0n _ _ (wk [0, 2, 3, 4] [pI (.arg 0) .fz, pI (.tmp 2 0) .box, pI (.tmp 3 0) .box]) (ih _ _ _ h K hx0)
  · replace c9 := of_decide_eq_false c9; rw [if_neg c9] at h
    obtain rfl := Option.some.inj h
    refine gh_k (wk [2, 3] [pI (.arg 0) .fz, pI (.tmp 2 0) .box, pI (.tmp 3 0) .box]) ?_
    refine G0x _ _ ?_
    exact hx0
theorem spec_l1Begin.tri (cs0 : List Cell) (o0 : Nat) (l0 : List Int) (hv0 : Vw c_u8 1 cs0 o0 l0) (r : Int × Int) (h : spec_l1Begin.f l0 = some r) : Tri Try.prog 68 [.c (.ref (.arg 0) [] o0 l0.length)] [(.arg 0, ⟨.fz, 1, cs0⟩)] (fun o => o = ⟨.g [.ref (.arg 0) [] o0 l0.length, .sc (.int .i64 r.1), .sc (.int .u64 r.2)], [(.arg 0, ⟨.fz, 1, cs0⟩)], [], []⟩) := by
  refine tri_of_body (ac := C68) (xs := r68) Try.func68 (show Try.f68.body = some (Try.f68.body.getD .skip) from rfl) k68 q68 (Nat.le_of_ble_eq_true rfl) ?_
  refine body_of fun K hKn hKr => ?_
  unfold spec_l1Begin.f at h
  unfold C68
  simp only [initT, Nat.reduceAdd]
  refine sr_k fun J1 hJ1 => ?_
  simp +decide only [Nat.reduceAdd, Nat.reduceMul, Int.reduceToNat, ak]
  refine gho_k (Weak.own (.tmp 2 0) (cs' := [.own 1 (([] : List Int).length) (encL c_u8 ([] : List Int)), .sc (.int .i64 0), .sc (.int .u64 0)]) rfl ⟨.inr ⟨rfl, _, rfl⟩, .inl rfl, .inl rfl, trivial⟩) ?_
  simp +decide only [Nat.reduceAdd, Nat.reduceMul, Int.reduceToNat, ak]
  refine hJ1 _ ?_
  refine sr_k fun J2 hJ2 => ?_
  simp +decide only [Nat.reduceAdd, Nat.reduceMul, Int.reduceToNat, ak]
  refine gho_k (Weak.refl _ _) ?_
  simp +decide only [Nat.reduceAdd, Nat.reduceMul, Int.reduceToNat, ak]
  refine gho_k (Weak.own (.tmp 3 0) (cs' := [.own 1 (([] : List Int).length) (encL c_u8 ([] : List Int)), .sc (.int .i64 0), .sc (.int .u64 0)]) rfl ⟨.inr ⟨rfl, _, rfl⟩, .inl rfl, .inl rfl, trivial⟩) ?_
  simp +decide only [Nat.reduceAdd, Nat.reduceMul, Int.reduceToNat, ak]
  refine hJ2 _ ?_
  refine sr_k fun J3 hJ3 => ?_
  simp +decide only [Nat.reduceAdd, Nat.reduceMul, Int.reduceToNat, ak]
  refine hJ3 _ ?_
  refine seq_k fun J4 hJ4 => ?_
  refine sr_k fun J5 hJ5 => ?_
  simp +decide only [Nat.reduceAdd, Nat.reduceMul, Int.reduceToNat, ak]
  refine hJ5 _ ?_
  refine block_k fun B6 B6n B6x B6r B6j => ?_
  obtain ⟨y14, h15, h⟩ := of_bind h
  refine gh_k (wk [0, 2, 3, 4] [pI (.arg 0) .fz, pI (.tmp 2 0) .box, pI (.tmp 3 0) .box]) ?_
  rw [e_loop]
  refine spec_l1Begin.l0_walk cs0 o0 l0 hv0 ([] : List Int) 0 0 0 0 1469598103934665603 _ h15 _ ?_
  refine B6x _ ?_
  refine hJ4 _ ?_
  refine sr_k fun J16 hJ16 => ?_
  simp +decide only [Nat.reduceAdd, Nat.reduceMul, Int.reduceToNat, ak]
  refine hJ16 _ ?_
  obtain rfl := Option.some.inj h
  refine hKr _ ⟨_, rfl, [], _, rfl, rfl, ?_⟩
  first | rfl | (simp only [reduceCtorEq, Nat.reduceEqDiff, ak, akF]; done) | (simp [reduceCtorEq, Nat.reduceEqDiff, ak, akF] <;> omega)
/-! ### spec.l1Next: function 69 -/
def C69 : AC := .seq (.reg [.op none (.mv 4 (.const (.int .i64 0))), .keep [0, 1]]) (.seq (.seq (.reg [.op none (.mv 6 (.tmp 1)), .op none (.bin 7 .leq (.tmp 6) (.const (.int .i64 0))), .keep [0, 1, 7]]) (.cond (.tmp 7) (.seq (.reg [.op none (.mv 4 (.const (.int .i64 0))), .keep [4]]) (.ret)) (.skip))) (.seq (.reg [.op none (.mv 8 (.tmp 0)), .op none (.mv 9 (.tmp 0)), .op none (.nilc 10 (.tmp 9)), .op none (.faddr 11 2 (.tmp 10)), .op none (.load 12 false 1 (.tmp 11)), .op none (.bin 13 .mul (.tmp 12) (.const (.int .u64 6364136223846793005))), .op none (.bin 14 .add (.tmp 13) (.const (.int .u64 1442695040888963407))), .op none (.nilc 15 (.tmp 8)), .op none (.faddr 16 2 (.tmp 15)), .op none (.store 1 (.tmp 16) (.tmp 14)), .keep [0, 1]]) (.seq (.reg [.op none (.mv 17 (.tmp 0)), .op none (.nilc 18 (.tmp 17)), .op none (.faddr 19 2 (.tmp 18)), .op none (.load 20 false 1 (.tmp 19)), .op none (.bin 21 .shr (.tmp 20) (.const (.int .u64 33))), .op none (.mv 5 (.tmp 21)), .keep [0, 1, 5]]) (.seq (.ga (.seq (.regD (.first (.op none (.mv 22 (.tmp 0))) (.first (.op none (.nilc 23 (.tmp 22))) (.first (.op none (.faddr 24 1 (.tmp 23))) (.first (.op none (.load 25 false 1 (.tmp 24))) (.first (.op none (.mv 26 (.tmp 0))) (.first (.op none (.nilc 27 (.tmp 26))) (.first (.op none (.faddr 28 0 (.tmp 27))) (.first (.op none (.load 29 false 1 (.tmp 28))) (.first (.op none (.len 30 (.tmp 29))) (.first (.op none (.bin 31 .lss (.tmp 25) (.tmp 30))) (.done))))))))))) [0, 1, 5, 31]) (.cond (.tmp 31) (.seq (.regD (.first (.op none (.mv 32 (.tmp 5))) (.first (.op none (.mv 33 (.tmp 0))) (.first (.op none (.nilc 34 (.tmp 33))) (.first (.op none (.faddr 35 0 (.tmp 34))) (.first (.op none (.load 36 false 1 (.tmp 35))) (.first (.op none (.mv 37 (.tmp 0))) (.first (.op none (.nilc 38 (.tmp 37))) (.first (.op none (.faddr 39 1 (.tmp 38))) (.first (.op none (.load 40 false 1 (.tmp 39))) (.first (.op none (.iaddr 41 1 (.tmp 36) (.tmp 40))) (.first (.op none (.load 42 false 1 (.tmp 41))) (.first (.op none (.conv 43 .u64 (.tmp 42))) (.first (.op none (.bin 44 .xor (.tmp 32) (.tmp 43))) (.first (.op none (.mv 5 (.tmp 44))) (.done))))))))))))))) [0, 1, 5]) (.reg [.op none (.mv 45 (.tmp 0)), .op none (.mv 46 (.tmp 0)), .op none (.nilc 47 (.tmp 46)), .op none (.faddr 48 1 (.tmp 47)), .op none (.load 49 false 1 (.tmp 48)), .op none (.bin 50 .add (.tmp 49) (.const (.int .i64 1))), .op none (.nilc 51 (.tmp 45)), .op none (.faddr 52 1 (.tmp 51)), .op none (.store 1 (.tmp 52) (.tmp 50)), .keep [1, 5]])) (.skip)))) (.seq (.reg [.op none (.mv 53 (.tmp 5)), .op none (.mv 54 (.tmp 1)), .op none (.conv 55 .u64 (.tmp 54)), .op none (.bin 56 .rem (.tmp 53) (.tmp 55)), .op none (.conv 57 .i64 (.tmp 56)), .op none (.mv 4 (.tmp 57)), .keep [4]]) (.ret))))))
def r69 : List RV := [.tmp 4]
theorem k69 : compC Try.prog 58 C69 (Try.f69.body.getD .skip) = some C69.erase := by kernel_rfl
theorem q69 : rvsOf Try.prog Try.f69.results.toList = some r69 := by kernel_rfl
def spec_l1Next.f (l0_0 : List Int) (a0_1 : Int) (a0_2 : Int) (a1 : Int) : Option (Int × Int × Int) := (if a1 ≤ 0 then (some (0, a0_1, a0_2)) else ((if a0_1 < (l0_0.length : Int) then (if 0 ≤ a0_1 ∧ a0_1 < (l0_0.length : Int) then (some (bits .xor .u64 ((IntKind.u64.wrap ((IntKind.u64.wrap (a0_2 * 6364136223846793005)) + 1442695040888963407)).fdiv (2 ^ 33)) (IntKind.u64.wrap (rd 0 l0_0 a0_1)), IntKind.i64.wrap (a0_1 + 1))) else none) else (some ((IntKind.u64.wrap ((IntKind.u64.wrap (a0_2 * 6364136223846793005)) + 1442695040888963407)).fdiv (2 ^ 33), a0_1))) >>= fun (j9 : Int × Int) => (if ¬ IntKind.u64.wrap a1 = 0 then (some (IntKind.i64.wrap (j9.1.tmod (IntKind.u64.wrap a1)), j9.2, IntKind.u64.wrap ((IntKind.u64.wrap (a0_2 * 6364136223846793005)) + 1442695040888963407))) else none)))
theorem spec_l1Next.tri (cs1 : List Cell) (o1 : Nat) (l0_0 : List Int) (hv1 : Vw c_u8 1 cs1 o1 l0_0) (a0_1 : Int) (a0_2 : Int) (a1 : Int) (r : Int × Int × Int) (h : spec_l1Next.f l0_0 a0_1 a0_2 a1 = some r) : Tri Try.prog 69 [.c (.ptr (.arg 0) [] 0), .c (.sc (.int .i64 a1))] [(.arg 0, ⟨.box, 0, [.ref (.arg 1) [] o1 l0_0.length, .sc (.int .i64 a0_1), .sc (.int .u64 a0_2)]⟩), (.arg 1, ⟨.fz, 1, cs1⟩)] (fun o => o = ⟨.c (.sc (.int .i64 r.1)), [(.arg 0, ⟨.box, 0, [.ref (.arg 1) [] o1 l0_0.length, .sc (.int .i64 r.2.1), .sc (.int .u64 r.2.2)]⟩), (.arg 1, ⟨.fz, 1, cs1⟩)], [], []⟩) := by
  refine tri_of_body (ac := C69) (xs := r69) Try.func69 (show Try.f69.body = some (Try.f69.body.getD .skip) from rfl) k69 q69 (Nat.le_of_ble_eq_true rfl) ?_
  refine body_of fun K hKn hKr => ?_
  unfold spec_l1Next.f at h
  unfold C69
  simp only [initT, Nat.reduceAdd]
  refine sr_k fun J1 hJ1 => ?_
  simp +decide only [Nat.reduceAdd, Nat.reduceMul, Int.reduceToNat, ak]
  refine hJ1 _ ?_
  refine seq_k fun J2 hJ2 => ?_
  refine sr_k fun J3 hJ3 => ?_
  simp +decide only [Nat.reduceAdd, Nat.reduceMul, Int.reduceToNat, ak]
  refine hJ3 _ ?_
  refine cond_k (b := decide (a1 ≤ 0)) rfl (fun c4 => ?_) (fun c4 => ?_)
  · replace c4 := of_decide_eq_true c4; rw [if_pos c4] at h
    refine sr_k fun J5 hJ5 => ?_
    simp +decide only [Nat.reduceAdd, Nat.reduceMul, Int.reduceToNat, ak]
    refine hJ5 _ ?_
    obtain rfl := Option.some.inj h
    refine hKr _ ⟨_, rfl, [], _, rfl, rfl, ?_⟩
    first | rfl | (simp only [reduceCtorEq, Nat.reduceEqDiff, ak, akF]; done) | (simp [reduceCtorEq, Nat.reduceEqDiff, ak, akF] <;> omega)
  · replace c4 := of_decide_eq_false c4; rw [if_neg c4] at h
    refine hJ2 _ ?_
    refine sr_k fun J6 hJ6 => ?_
    simp +decide only [Nat.reduceAdd, Nat.reduceMul, Int.reduceToNat, ak]
    refine hJ6 _ ?_
    refine sr_k fun J7 hJ7 => ?_
    have g8 : ∀ a, abin .shr (.int .u64 a) (.int .u64 33) = some (.int .u64 (a.fdiv (2 ^ 33))) := fun a => akShrL _ _ a 33 (by decide)
    simp +decide only [Nat.reduceAdd, Nat.reduceMul, Int.reduceToNat, ak, g8]
    refine hJ7 _ ?_
    obtain ⟨j9, h10, hn⟩ := of_bind h
    refine seq_j (fun st => st = ⟨[(1, .c (.sc (.int .i64 a1))), (5, .c (.sc (.int .u64 j9.1)))], [(.arg 0, ⟨.box, 0, [.ref (.arg 1) [] o1 l0_0.length, .sc (.int .i64 j9.2), .sc (.int .u64 (IntKind.u64.wrap ((IntKind.u64.wrap (a0_2 * 6364136223846793005)) + 1442695040888963407)))]⟩), (.arg 1, ⟨.fz, 1, cs1⟩)], [], []⟩) (fun J11 hJ11 => ?_) ?_
    · replace h := h10; clear hn
      refine ga_k fun G12 G12n G12r G12x => ?_
      refine sd_k fun J13 hJ13 => ?_
      simp +decide only [Nat.reduceAdd, Nat.reduceMul, Int.reduceToNat, ak]
      refine hJ13 _ ?_
      refine cond_k (b := decide (a0_1 < (l0_0.length : Int))) rfl (fun c14 => ?_) (fun c14 => ?_)
      · replace c14 := of_decide_eq_true c14; rw [if_pos c14] at h
        refine sd_k fun J15 hJ15 => ?_
        obtain ⟨b16, h⟩ := of_guard h
        have g17 : (cs1)[o1 + a0_1.toNat * 1]? = some (.sc (.int .u8 (rd 0 l0_0 a0_1))) := hv1.get 0 0 b16.1 b16.2 (by decide)
        simp +decide only [Nat.reduceAdd, Nat.reduceMul, Int.reduceToNat, ak, b16, g17]
        refine hJ15 _ ?_
        refine reg_k ?_
        simp +decide only [Nat.reduceAdd, Nat.reduceMul, Int.reduceToNat, ak]
        obtain rfl := Option.some.inj h
        refine G12n _ _ (wk [1, 5] [pI (.arg 0) .box, pI (.arg 1) .fz]) (hJ11 _ rfl)
      · replace c14 := of_decide_eq_false c14; rw [if_neg c14] at h
        obtain rfl := Option.some.inj h
        refine G12n _ _ (wk [1, 5] [pI (.arg 0) .box, pI (.arg 1) .fz]) (hJ11 _ rfl)
    · replace h := hn; clear hn h10
      rintro _ rfl
      refine sr_k fun J18 hJ18 => ?_
      obtain ⟨b19, h⟩ := of_guard h
      simp +decide only [Nat.reduceAdd, Nat.reduceMul, Int.reduceToNat, ak, b19]
      refine hJ18 _ ?_
      obtain rfl := Option.some.inj h
      refine hKr _ ⟨_, rfl, [], _, rfl, rfl, ?_⟩
      first | rfl | (simp only [reduceCtorEq, Nat.reduceEqDiff, ak, akF, b19]; done) | (simp [reduceCtorEq, Nat.reduceEqDiff, ak, akF, b19] <;> omega)
/-! ### spec.l4DrawConfig: function 84 -/
def C84 : AC := .seq (.reg [.op none (.alloc 2 [.int .u32 0, .int .i64 0, .int .i64 0, .int .i64 0, .int .i64 0, .int .i64 0]), .keep [0, 2]]) (.seq (.reg [.op none (.mv 4 (.tmp 0)), .call none (some 5) 69 [.tmp 4, .const (.int .i64 100)], .op none (.conv 6 .u32 (.tmp 5)), .op none (.mv 7 (.tmp 0)), .call none (some 8) 69 [.tmp 7, .const (.int .i64 6)], .op none (.bin 9 .add (.const (.int .i64 1)) (.tmp 8)), .op none (.mv 10 (.tmp 0)), .call none (some 11) 69 [.tmp 10, .const (.int .i64 4)], .op none (.bin 12 .add (.const (.int .i64 1)) (.tmp 11)), .op none (.mv 13 (.tmp 0)), .call none (some 14) 69 [.tmp 13, .const (.int .i64 4)], .op none (.bin 15 .add (.const (.int .i64 1)) (.tmp 14)), .op none (.mv 16 (.tmp 0)), .call none (some 17) 69 [.tmp 16, .const (.int .i64 4)], .op none (.bin 18 .add (.const (.int .i64 1)) (.tmp 17)), .op none (.build 19 [.int .u32 0, .int .i64 0, .int .i64 0, .int .i64 0, .int .i64 0, .int .i64 0] [(0, 1, .tmp 6), (1, 1, .tmp 9), (2, 1, .tmp 12), (4, 1, .tmp 15), (5, 1, .tmp 18)]), .op none (.alloc 3 [.int .u32 0, .int .i64 0, .int .i64 0, .int .i64 0, .int .i64 0, .int .i64 0]), .op none (.store 6 (.tmp 3) (.tmp 19)), .keep [0, 2, 3]]) (.seq (.ga (.seq (.reg [.op none (.mv 20 (.tmp 0)), .call none (some 21) 69 [.tmp 20, .const (.int .i64 2)], .op none (.bin 22 .eql (.tmp 21) (.const (.int .i64 0))), .keep [0, 2, 3, 22]]) (.cond (.tmp 22) (.reg [.op none (.mv 23 (.tmp 0)), .call none (some 24) 69 [.tmp 23, .const (.int .i64 12)], .op none (.conv 25 .u32 (.tmp 24)), .op none (.bin 26 .sub (.const (.int .u32 4294967295)) (.tmp 25)), .op none (.faddr 27 0 (.tmp 3)), .op none (.store 1 (.tmp 27) (.tmp 26)), .keep [0, 2, 3]]) (.skip)))) (.seq (.regD (.first (.op none (.faddr 28 2 (.tmp 3))) (.first (.op none (.mv 30 (.tmp 0))) (.pin [6, 5, 4] (.op none (.load 29 false 1 (.tmp 28))) (.alt (.call none (some 31) 69 [.tmp 30, .const (.int .i64 12)]) none (.pin [6, 5] (.op none (.bin 32 .add (.tmp 29) (.tmp 31))) (.pin [6] (.op none (.faddr 33 3 (.tmp 3))) (.alt (.op none (.store 1 (.tmp 33) (.tmp 32))) (some 6) (.done) (.stop)))) (.stop))))) [0, 2, 3]) (.seq (.ga (.seq (.reg [.op none (.mv 34 (.tmp 0)), .call none (some 35) 69 [.tmp 34, .const (.int .i64 10)], .op none (.bin 36 .eql (.tmp 35) (.const (.int .i64 0))), .keep [2, 3, 36]]) (.cond (.tmp 36) (.reg [.op none (.faddr 37 0 (.tmp 3)), .op none (.load 38 false 1 (.tmp 37)), .op none (.build 39 [.int .u32 0, .int .i64 0, .int .i64 0, .int .i64 0, .int .i64 0, .int .i64 0] [(0, 1, .tmp 38), (1, 1, .const (.int .i64 16)), (2, 1, .const (.int .i64 50)), (3, 1, .const (.int .i64 400)), (4, 1, .const (.int .i64 8)), (5, 1, .const (.int .i64 50))]), .op none (.store 6 (.tmp 3) (.tmp 39)), .keep [2, 3]]) (.skip)))) (.seq (.reg [.op none (.load 40 true 6 (.tmp 3)), .op none (.store 6 (.tmp 2) (.tmp 40)), .keep [2]]) (.ret))))))
def r84 : List RV := [.cell 2 true 6]
theorem k84 : compC Try.prog 41 C84 (Try.f84.body.getD .skip) = some C84.erase := by kernel_rfl
theorem q84 : rvsOf Try.prog Try.f84.results.toList = some r84 := by kernel_rfl
def spec_l4DrawConfig.f (l0_0 : List Int) (a0_1 : Int) (a0_2 : Int) : Option (Int × Int × Int × Int × Int × Int × Int × Int) := (spec_l1Next.f l0_0 a0_1 a0_2 100 >>= fun t3 => (spec_l1Next.f l0_0 t3.2.1 t3.2.2 6 >>= fun t6 => (spec_l1Next.f l0_0 t6.2.1 t6.2.2 4 >>= fun t9 => (spec_l1Next.f l0_0 t9.2.1 t9.2.2 4 >>= fun t12 => (spec_l1Next.f l0_0 t12.2.1 t12.2.2 4 >>= fun t15 => ((spec_l1Next.f l0_0 t15.2.1 t15.2.2 2 >>= fun t23 => (if t23.1 = 0 then (spec_l1Next.f l0_0 t23.2.1 t23.2.2 12 >>= fun t27 => (some (t27.2.1, t27.2.2, IntKind.u32.wrap (4294967295 - (IntKind.u32.wrap t27.1))))) else (some (t23.2.1, t23.2.2, IntKind.u32.wrap t3.1)))) >>= fun (j18 : Int × Int × Int) => (spec_l1Next.f l0_0 j18.1 j18.2.1 12 >>= fun t31 => ((spec_l1Next.f l0_0 t31.2.1 t31.2.2 10 >>= fun t40 => (if t40.1 = 0 then (some (t40.2.1, t40.2.2, 16, 50, 400, 8, 50)) else (some (t40.2.1, t40.2.2, IntKind.i64.wrap (1 + t6.1), IntKind.i64.wrap (1 + t9.1), IntKind.i64.wrap ((IntKind.i64.wrap (1 + t9.1)) + t31.1), IntKind.i64.wrap (1 + t12.1), IntKind.i64.wrap (1 + t15.1))))) >>= fun (j35 : Int × Int × Int × Int × Int × Int × Int) => (some (j18.2.2, j35.2.2.1, j35.2.2.2.1, j35.2.2.2.2.1, j35.2.2.2.2.2.1, j35.2.2.2.2.2.2, j35.1, j35.2.1))))))))))
theorem spec_l4DrawConfig.tri (cs1 : List Cell) (o1 : Nat) (l0_0 : List Int) (hv1 : Vw c_u8 1 cs1 o1 l0_0) (a0_1 : Int) (a0_2 : Int) (r : Int × Int × Int × Int × Int × Int × Int × Int) (h : spec_l4DrawConfig.f l0_0 a0_1 a0_2 = some r) : Tri Try.prog 84 [.c (.ptr (.arg 0) [] 0)] [(.arg 0, ⟨.box, 0, [.ref (.arg 1) [] o1 l0_0.length, .sc (.int .i64 a0_1), .sc (.int .u64 a0_2)]⟩), (.arg 1, ⟨.fz, 1, cs1⟩)] (fun o => o = ⟨.g [.sc (.int .u32 r.1), .sc (.int .i64 r.2.1), .sc (.int .i64 r.2.2.1), .sc (.int .i64 r.2.2.2.1), .sc (.int .i64 r.2.2.2.2.1), .sc (.int .i64 r.2.2.2.2.2.1)], [(.arg 0, ⟨.box, 0, [.ref (.arg 1) [] o1 l0_0.length, .sc (.int .i64 r.2.2.2.2.2.2.1), .sc (.int .u64 r.2.2.2.2.2.2.2)]⟩), (.arg 1, ⟨.fz, 1, cs1⟩)], [], []⟩) := by
  refine tri_of_body (ac := C84) (xs := r84) Try.func84 (show Try.f84.body = some (Try.f84.body.getD .skip) from rfl) k84 q84 (Nat.le_of_ble_eq_true rfl) ?_
  refine body_of fun K hKn hKr => ?_
  unfold spec_l4DrawConfig.f at h
  unfold C84
  simp only [initT, Nat.reduceAdd]
  refine sr_k fun J1 hJ1 => ?_
  simp +decide only [Nat.reduceAdd, Nat.reduceMul, Int.reduceToNat, ak]
  refine hJ1 _ ?_
  refine sr_k fun J2 hJ2 => ?_
  simp +decide only [Nat.reduceAdd, Nat.reduceMul, Int.reduceToNat, ak]
  obtain ⟨t3, h4, h⟩ := of_bind h
  refine call_m [(.arg 0, ⟨(.arg 0), [], none, .box⟩), (.arg 1, ⟨(.arg 1), [], none, .fz⟩)] (s0 := [(.arg 0, ⟨.box, 0, [.ref (.arg 1) [] o1 l0_0.length, .sc (.int .i64 a0_1), .sc (.int .u64 a0_2)]⟩), (.arg 1, ⟨.fz, 1, cs1⟩)]) (by intro t ht; cases ht; decide) rfl rfl (by first | rfl | simp only [reduceCtorEq, Nat.reduceEqDiff, ak, akF]) (spec_l1Next.tri (cs1) o1 l0_0 hv1 a0_1 a0_2 100 _ h4) (by first | rfl | simp only [reduceCtorEq, Nat.reduceEqDiff, ak, akF]) (by simp [bkOk2, memK]) (fun hl4 => ?_)
  refine call_st (s4 := [(.arg 0, ⟨.box, 0, [.ref (.arg 1) [] o1 l0_0.length, .sc (.int .i64 t3.2.1), .sc (.int .u64 t3.2.2)]⟩), (.arg 1, ⟨.fz, 1, cs1⟩), (.tmp 2 0, ⟨.box, 0, [.sc (.int .u32 0), .sc (.int .i64 0), .sc (.int .i64 0), .sc (.int .i64 0), .sc (.int .i64 0), .sc (.int .i64 0)]⟩)]) (m1' := []) (m2' := []) (v' := .c (.sc (.int .i64 t3.1))) (Sto.mapN_killNil _ _) (mrgL_whole (new' := [.ref (.arg 1) [] o1 l0_0.length, .sc (.int .i64 t3.2.1), .sc (.int .u64 t3.2.2)]) (mrgL_fz (mrgL_nil' _ _ _) rfl (by first | rfl | simp only [reduceCtorEq, Nat.reduceEqDiff, ak]) rfl (by intro R hR hh; cases hR; cases hh.2)) rfl (by rfl) (.inl ⟨rfl, by first | rfl | simp only [reduceCtorEq, Nat.reduceEqDiff, ak, akF, Nat.zero_add, List.append_nil]⟩)) (by rfl) (mapT_killNil _ _) (by rfl) (by rfl) (by first | rfl | simp only [reduceCtorEq, Nat.reduceEqDiff, ak, akF, Nat.zero_add, List.append_nil]) ?_
  simp +decide only [Nat.reduceAdd, Nat.reduceMul, Int.reduceToNat, ak]
  obtain ⟨t6, h7, h⟩ := of_bind h
  refine call_m [(.arg 0, ⟨(.arg 0), [], none, .box⟩), (.arg 1, ⟨(.arg 1), [], none, .fz⟩)] (s0 := [(.arg 0, ⟨.box, 0, [.ref (.arg 1) [] o1 l0_0.length, .sc (.int .i64 t3.2.1), .sc (.int .u64 t3.2.2)]⟩), (.arg 1, ⟨.fz, 1, cs1⟩)]) (by intro t ht; cases ht; decide) rfl rfl (by first | rfl | simp only [reduceCtorEq, Nat.reduceEqDiff, ak, akF]) (spec_l1Next.tri (cs1) o1 l0_0 hv1 t3.2.1 t3.2.2 6 _ h7) (by first | rfl | simp only [reduceCtorEq, Nat.reduceEqDiff, ak, akF]) (by simp [bkOk2, memK]) (fun hl7 => ?_)
  refine call_st (s4 := [(.arg 0, ⟨.box, 0, [.ref (.arg 1) [] o1 l0_0.length, .sc (.int .i64 t6.2.1), .sc (.int .u64 t6.2.2)]⟩), (.arg 1, ⟨.fz, 1, cs1⟩), (.tmp 2 0, ⟨.box, 0, [.sc (.int .u32 0), .sc (.int .i64 0), .sc (.int .i64 0), .sc (.int .i64 0), .sc (.int .i64 0), .sc (.int .i64 0)]⟩)]) (m1' := []) (m2' := []) (v' := .c (.sc (.int .i64 t6.1))) (Sto.mapN_killNil _ _) (mrgL_whole (new' := [.ref (.arg 1) [] o1 l0_0.length, .sc (.int .i64 t6.2.1), .sc (.int .u64 t6.2.2)]) (mrgL_fz (mrgL_nil' _ _ _) rfl (by first | rfl | simp only [reduceCtorEq, Nat.reduceEqDiff, ak]) rfl (by intro R hR hh; cases hR; cases hh.2)) rfl (by rfl) (.inl ⟨rfl, by first | rfl | simp only [reduceCtorEq, Nat.reduceEqDiff, ak, akF, Nat.zero_add, List.append_nil]⟩)) (by rfl) (mapT_killNil _ _) (by rfl) (by rfl) (by first | rfl | simp only [reduceCtorEq, Nat.reduceEqDiff, ak, akF, Nat.zero_add, List.append_nil]) ?_
  simp +decide only [Nat.reduceAdd, Nat.reduceMul, Int.reduceToNat, ak]
  obtain ⟨t9, h10, h⟩ := of_bind h
  refine call_m [(.arg 0, ⟨(.arg 0), [], none, .box⟩), (.arg 1, ⟨(.arg 1), [], none, .fz⟩)] (s0 := [(.arg 0, ⟨.box, 0, [.ref (.arg 1) [] o1 l0_0.length, .sc (.int .i64 t6.2.1), .sc (.int .u64 t6.2.2)]⟩), (.arg 1, ⟨.fz, 1, cs1⟩)]) (by intro t ht; cases ht; decide) rfl rfl (by first | rfl | simp only [reduceCtorEq, Nat.reduceEqDiff, ak, akF]) (spec_l1Next.tri (cs1) o1 l0_0 hv1 t6.2.1 t6.2.2 4 _ h10) (by first | rfl | simp only [reduceCtorEq, Nat.reduceEqDiff, ak, akF]) (by simp [bkOk2, memK]) (fun hl10 => ?_)
  refine call_st (s4 := [(.arg 0, ⟨.box, 0, [.ref (.arg 1) [] o1 l0_0.length, .sc (.int .i64 t9.2.1), .sc (.int .u64 t9.2.2)]⟩), (.arg 1, ⟨.fz, 1, cs1⟩), (.tmp 2 0, ⟨.box, 0, [.sc (.int .u32 0), .sc (.int .i64 0), .sc (.int .i64 0), .sc (.int .i64 0), .sc (.int .i64 0), .sc (.int .i64 0)]⟩)]) (m1' := []) (m2' := []) (v' := .c (.sc (.int .i64 t9.1))) (Sto.mapN_killNil _ _) (mrgL_whole (new' := [.ref (.arg 1) [] o1 l0_0.length, .sc (.int .i64 t9.2.1), .sc (.int .u64 t9.2.2)]) (mrgL_fz (mrgL_nil' _ _ _) rfl (by first | rfl | simp only [reduceCtorEq, Nat.reduceEqDiff, ak]) rfl (by intro R hR hh; cases hR; cases hh.2)) rfl (by rfl) (.inl ⟨rfl, by first | rfl | simp only [reduceCtorEq, Nat.reduceEqDiff, ak, akF, Nat.zero_add, List.append_nil]⟩)) (by rfl) (mapT_killNil _ _) (by rfl) (by rfl) (by first | rfl | simp only [reduceCtorEq, Nat.reduceEqDiff, ak, akF, Nat.zero_add, List.append_nil]) ?_
  simp +decide only [Nat.reduceAdd, Nat.reduceMul, Int.reduceToNat, ak]
  obtain ⟨t12, h13, h⟩ := of_bind h
  refine call_m [(.arg 0, ⟨(.arg 0), [], none, .box⟩), (.arg 1, ⟨(.arg 1), [], none, .fz⟩)] (s0 := [(.arg 0, ⟨.box, 0, [.ref (.arg 1) [] o1 l0_0.length, .sc (.int .i64 t9.2.1), .sc (.int .u64 t9.2.2)]⟩), (.arg 1, ⟨.fz, 1, cs1⟩)]) (by intro t ht; cases ht; decide) rfl rfl (by first | rfl | simp only [reduceCtorEq, Nat.reduceEqDiff, ak, akF]) (spec_l1Next.tri (cs1) o1 l0_0 hv1 t9.2.1 t9.2.2 4 _ h13) (by first | rfl | simp only [reduceCtorEq, Nat.reduceEqDiff, ak, akF]) (by simp [bkOk2, memK]) (fun hl13 => ?_)
  refine call_st (s4 := [(.arg 0, ⟨.box, 0, [.ref (.arg 1) [] o1 l0_0.length, .sc (.int .i64 t12.2.1), .sc (.int .u64 t12.2.2)]⟩), (.arg 1, ⟨.fz, 1, cs1⟩), (.tmp 2 0, ⟨.box, 0, [.sc (.int .u32 0), .sc (.int .i64 0), .sc (.int .i64 0), .sc (.int .i64 0), .sc (.int .i64 0), .sc (.int .i64 0)]⟩)]) (m1' := []) (m2' := []) (v' := .c (.sc (.int .i64 t12.1))) (Sto.mapN_killNil _ _) (mrgL_whole (new' := [.ref (.arg 1) [] o1 l0_0.length, .sc (.int .i64 t12.2.1), .sc (.int .u64 t12.2.2)]) (mrgL_fz (mrgL_nil' _ _ _) rfl (by first | rfl | simp only [reduceCtorEq, Nat.reduceEqDiff, ak]) rfl (by intro R hR hh; cases hR; cases hh.2)) rfl (by rfl) (.inl ⟨rfl, by first | rfl | simp only [reduceCtorEq, Nat.reduceEqDiff, ak, akF, Nat.zero_add, List.append_nil]⟩)) (by rfl) (mapT_killNil _ _) (by rfl) (by rfl) (by first | rfl | simp only [reduceCtorEq, Nat.reduceEqDiff, ak, akF, Nat.zero_add, List.append_nil]) ?_
  simp +decide only [Nat.reduceAdd, Nat.reduceMul, Int.reduceToNat, ak]
  obtain ⟨t15, h16, h⟩ := of_bind h
  refine call_m [(.arg 0, ⟨(.arg 0), [], none, .box⟩), (.arg 1, ⟨(.arg 1), [], none, .fz⟩)] (s0 := [(.arg 0, ⟨.box, 0, [.ref (.arg 1) [] o1 l0_0.length, .sc (.int .i64 t12.2.1), .sc (.int .u64 t12.2.2)]⟩), (.arg 1, ⟨.fz, 1, cs1⟩)]) (by intro t ht; cases ht; decide) rfl rfl (by first | rfl | simp only [reduceCtorEq, Nat.reduceEqDiff, ak, akF]) (spec_l1Next.tri (cs1) o1 l0_0 hv1 t12.2.1 t12.2.2 4 _ h16) (by first | rfl | simp only [reduceCtorEq, Nat.reduceEqDiff, ak, akF]) (by simp [bkOk2, memK]) (fun hl16 => ?_)
  refine call_st (s4 := [(.arg 0, ⟨.box, 0, [.ref (.arg 1) [] o1 l0_0.length, .sc (.int .i64 t15.2.1), .sc (.int .u64 t15.2.2)]⟩), (.arg 1, ⟨.fz, 1, cs1⟩), (.tmp 2 0, ⟨.box, 0, [.sc (.int .u32 0), .sc (.int .i64 0), .sc (.int .i64 0), .sc (.int .i64 0), .sc (.int .i64 0), .sc (.int .i64 0)]⟩)]) (m1' := []) (m2' := []) (v' := .c (.sc (.int .i64 t15.1))) (Sto.mapN_killNil _ _) (mrgL_whole (new' := [.ref (.arg 1) [] o1 l0_0.length, .sc (.int .i64 t15.2.1), .sc (.int .u64 t15.2.2)]) (mrgL_fz (mrgL_nil' _ _ _) rfl (by first | rfl | simp only [reduceCtorEq, Nat.reduceEqDiff, ak]) rfl (by intro R hR hh; cases hR; cases hh.2)) rfl (by rfl) (.inl ⟨rfl, by first | rfl | simp only [reduceCtorEq, Nat.reduceEqDiff, ak, akF, Nat.zero_add, List.append_nil]⟩)) (by rfl) (mapT_killNil _ _) (by rfl) (by rfl) (by first | rfl | simp only [reduceCtorEq, Nat.reduceEqDiff, ak, akF, Nat.zero_add, List.append_nil]) ?_
  simp +decide only [Nat.reduceAdd, Nat.reduceMul, Int.reduceToNat, ak]
  refine hJ2 _ ?_
  obtain ⟨j18, h19, hn⟩ := of_bind h
  refine seq_j (fun st => st = ⟨[(0, .c (.ptr (.arg 0) [] 0)), (2, .c (.ptr (.tmp 2 0) [] 0)), (3, .c (.ptr (.tmp 3 0) [] 0))], [(.arg 0, ⟨.box, 0, [.ref (.arg 1) [] o1 l0_0.length, .sc (.int .i64 j18.1), .sc (.int .u64 j18.2.1)]⟩), (.arg 1, ⟨.fz, 1, cs1⟩), (.tmp 2 0, ⟨.box, 0, [.sc (.int .u32 0), .sc (.int .i64 0), .sc (.int .i64 0), .sc (.int .i64 0), .sc (.int .i64 0), .sc (.int .i64 0)]⟩), (.tmp 3 0, ⟨.box, 0, [.sc (.int .u32 j18.2.2), .sc (.int .i64 (IntKind.i64.wrap (1 + t6.1))), .sc (.int .i64 (IntKind.i64.wrap (1 + t9.1))), .sc (.int .i64 0), .sc (.int .i64 (IntKind.i64.wrap (1 + t12.1))), .sc (.int .i64 (IntKind.i64.wrap (1 + t15.1)))]⟩)], [], []⟩) (fun J20 hJ20 => ?_) ?_
  · replace h := h19; clear hn
    refine ga_k fun G21 G21n G21r G21x => ?_
    refine sr_k fun J22 hJ22 => ?_
    simp +decide only [Nat.reduceAdd, Nat.reduceMul, Int.reduceToNat, ak]
    obtain ⟨t23, h24, h⟩ := of_bind h
    refine call_m [(.arg 0, ⟨(.arg 0), [], none, .box⟩), (.arg 1, ⟨(.arg 1), [], none, .fz⟩)] (s0 := [(.arg 0, ⟨.box, 0, [.ref (.arg 1) [] o1 l0_0.length, .sc (.int .i64 t15.2.1), .sc (.int .u64 t15.2.2)]⟩), (.arg 1, ⟨.fz, 1, cs1⟩)]) (by intro t ht; cases ht; decide) rfl rfl (by first | rfl | simp only [reduceCtorEq, Nat.reduceEqDiff, ak, akF]) (spec_l1Next.tri (cs1) o1 l0_0 hv1 t15.2.1 t15.2.2 2 _ h24) (by first | rfl | simp only [reduceCtorEq, Nat.reduceEqDiff, ak, akF]) (by simp [bkOk2, memK]) (fun hl24 => ?_)
    refine call_st (s4 := [(.arg 0, ⟨.box, 0, [.ref (.arg 1) [] o1 l0_0.length, .sc (.int .i64 t23.2.1), .sc (.int .u64 t23.2.2)]⟩), (.arg 1, ⟨.fz, 1, cs1⟩), (.tmp 2 0, ⟨.box, 0, [.sc (.int .u32 0), .sc (.int .i64 0), .sc (.int .i64 0), .sc (.int .i64 0), .sc (.int .i64 0), .sc (.int .i64 0)]⟩), (.tmp 3 0, ⟨.box, 0, [.sc (.int .u32 (IntKind.u32.wrap t3.1)), .sc (.int .i64 (IntKind.i64.wrap (1 + t6.1))), .sc (.int .i64 (IntKind.i64.wrap (1 + t9.1))), .sc (.int .i64 0), .sc (.int .i64 (IntKind.i64.wrap (1 + t12.1))), .sc (.int .i64 (IntKind.i64.wrap (1 + t15.1)))]⟩)]) (m1' := []) (m2' := []) (v' := .c (.sc (.int .i64 t23.1))) (Sto.mapN_killNil _ _) (mrgL_whole (new' := [.ref (.arg 1) [] o1 l0_0.length, .sc (.int .i64 t23.2.1), .sc (.int .u64 t23.2.2)]) (mrgL_fz (mrgL_nil' _ _ _) rfl (by first | rfl | simp only [reduceCtorEq, Nat.reduceEqDiff, ak]) rfl (by intro R hR hh; cases hR; cases hh.2)) rfl (by rfl) (.inl ⟨rfl, by first | rfl | simp only [reduceCtorEq, Nat.reduceEqDiff, ak, akF, Nat.zero_add, List.append_nil]⟩)) (by rfl) (mapT_killNil _ _) (by rfl) (by rfl) (by first | rfl | simp only [reduceCtorEq, Nat.reduceEqDiff, ak, akF, Nat.zero_add, List.append_nil]) ?_
    simp +decide only [Nat.reduceAdd, Nat.reduceMul, Int.reduceToNat, ak]
    refine hJ22 _ ?_
    refine cond_k (b := decide (t23.1 = 0)) rfl (fun c26 => ?_) (fun c26 => ?_)
    · replace c26 := of_decide_eq_true c26; rw [if_pos c26] at h
      refine reg_k ?_
      simp +decide only [Nat.reduceAdd, Nat.reduceMul, Int.reduceToNat, ak]
      obtain ⟨t27, h28, h⟩ := of_bind h
      refine call_m [(.arg 0, ⟨(.arg 0), [], none, .box⟩), (.arg 1, ⟨(.arg 1), [], none, .fz⟩)] (s0 := [(.arg 0, ⟨.box, 0, [.ref (.arg 1) [] o1 l0_0.length, .sc (.int .i64 t23.2.1), .sc (.int .u64 t23.2.2)]⟩), (.arg 1, ⟨.fz, 1, cs1⟩)]) (by intro t ht; cases ht; decide) rfl rfl (by first | rfl | simp only [reduceCtorEq, Nat.reduceEqDiff, ak, akF]) (spec_l1Next.tri (cs1) o1 l0_0 hv1 t23.2.1 t23.2.2 12 _ h28) (by first | rfl | simp only [reduceCtorEq, Nat.reduceEqDiff, ak, akF]) (by simp [bkOk2, memK]) (fun hl28 => ?_)
      refine call_st (s4 := [(.arg 0, ⟨.box, 0, [.ref (.arg 1) [] o1 l0_0.length, .sc (.int .i64 t27.2.1), .sc (.int .u64 t27.2.2)]⟩), (.arg 1, ⟨.fz, 1, cs1⟩), (.tmp 2 0, ⟨.box, 0, [.sc (.int .u32 0), .sc (.int .i64 0), .sc (.int .i64 0), .sc (.int .i64 0), .sc (.int .i64 0), .sc (.int .i64 0)]⟩), (.tmp 3 0, ⟨.box, 0, [.sc (.int .u32 (IntKind.u32.wrap t3.1)), .sc (.int .i64 (IntKind.i64.wrap (1 + t6.1))), .sc (.int .i64 (IntKind.i64.wrap (1 + t9.1))), .sc (.int .i64 0), .sc (.int .i64 (IntKind.i64.wrap (1 + t12.1))), .sc (.int .i64 (IntKind.i64.wrap (1 + t15.1)))]⟩)]) (m1' := []) (m2' := []) (v' := .c (.sc (.int .i64 t27.1))) (Sto.mapN_killNil _ _) (mrgL_whole (new' := [.ref (.arg 1) [] o1 l0_0.length, .sc (.int .i64 t27.2.1), .sc (.int .u64 t27.2.2)]) (mrgL_fz (mrgL_nil' _ _ _) rfl (by first | rfl | simp only [reduceCtorEq, Nat.reduceEqDiff, ak]) rfl (by intro R hR hh; cases hR; cases hh.2)) rfl (by rfl) (.inl ⟨rfl, by first | rfl | simp only [reduceCtorEq, Nat.reduceEqDiff, ak, akF, Nat.zero_add, List.append_nil]⟩)) (by rfl) (mapT_killNil _ _) (by rfl) (by rfl) (by first | rfl | simp only [reduceCtorEq, Nat.reduceEqDiff, ak, akF, Nat.zero_add, List.append_nil]) ?_
      simp +decide only [Nat.reduceAdd, Nat.reduceMul, Int.reduceToNat, ak]
      obtain rfl := Option.some.inj h
      refine G21n _ _ (wk [0, 2, 3] [pI (.arg 0) .box, pI (.arg 1) .fz, pI (.tmp 2 0) .box, pI (.tmp 3 0) .box]) (hJ20 _ rfl)
    · replace c26 := of_decide_eq_false c26; rw [if_neg c26] at h
      obtain rfl := Option.some.inj h
      refine G21n _ _ (wk [0, 2, 3] [pI (.arg 0) .box, pI (.arg 1) .fz, pI (.tmp 2 0) .box, pI (.tmp 3 0) .box]) (hJ20 _ rfl)
  · replace h := hn; clear hn h19
    rintro _ rfl
    refine sd_k fun J30 hJ30 => ?_
    simp +decide only [Nat.reduceAdd, Nat.reduceMul, Int.reduceToNat, ak]
    obtain ⟨t31, h32, h⟩ := of_bind h
    refine alt_e ?_
    · simp +decide only [Nat.reduceAdd, Nat.reduceMul, Int.reduceToNat, ak]
      refine call_m [(.arg 0, ⟨(.arg 0), [], none, .box⟩), (.arg 1, ⟨(.arg 1), [], none, .fz⟩)] (s0 := [(.arg 0, ⟨.box, 0, [.ref (.arg 1) [] o1 l0_0.length, .sc (.int .i64 j18.1), .sc (.int .u64 j18.2.1)]⟩), (.arg 1, ⟨.fz, 1, cs1⟩)]) (by intro t ht; cases ht; decide) rfl rfl (by first | rfl | simp only [reduceCtorEq, Nat.reduceEqDiff, ak, akF]) (spec_l1Next.tri (cs1) o1 l0_0 hv1 j18.1 j18.2.1 12 _ h32) (by first | rfl | simp only [reduceCtorEq, Nat.reduceEqDiff, ak, akF]) (by simp [bkOk2, memK]) (fun hl33 => ?_)
      refine call_st (s4 := [(.arg 0, ⟨.box, 0, [.ref (.arg 1) [] o1 l0_0.length, .sc (.int .i64 t31.2.1), .sc (.int .u64 t31.2.2)]⟩), (.arg 1, ⟨.fz, 1, cs1⟩), (.tmp 2 0, ⟨.box, 0, [.sc (.int .u32 0), .sc (.int .i64 0), .sc (.int .i64 0), .sc (.int .i64 0), .sc (.int .i64 0), .sc (.int .i64 0)]⟩), (.tmp 3 0, ⟨.box, 0, [.sc (.int .u32 j18.2.2), .sc (.int .i64 (IntKind.i64.wrap (1 + t6.1))), .sc (.int .i64 (IntKind.i64.wrap (1 + t9.1))), .sc (.int .i64 0), .sc (.int .i64 (IntKind.i64.wrap (1 + t12.1))), .sc (.int .i64 (IntKind.i64.wrap (1 + t15.1)))]⟩)]) (m1' := []) (m2' := []) (v' := .c (.sc (.int .i64 t31.1))) (Sto.mapN_killNil _ _) (mrgL_whole (new' := [.ref (.arg 1) [] o1 l0_0.length, .sc (.int .i64 t31.2.1), .sc (.int .u64 t31.2.2)]) (mrgL_fz (mrgL_nil' _ _ _) rfl (by first | rfl | simp only [reduceCtorEq, Nat.reduceEqDiff, ak]) rfl (by intro R hR hh; cases hR; cases hh.2)) rfl (by rfl) (.inl ⟨rfl, by first | rfl | simp only [reduceCtorEq, Nat.reduceEqDiff, ak, akF, Nat.zero_add, List.append_nil]⟩)) (by rfl) (mapT_killNil _ _) (by rfl) (by rfl) (by first | rfl | simp only [reduceCtorEq, Nat.reduceEqDiff, ak, akF, Nat.zero_add, List.append_nil]) ?_
      simp +decide only [Nat.reduceAdd, Nat.reduceMul, Int.reduceToNat, ak]
      refine alt_e ?_
      · simp +decide only [Nat.reduceAdd, Nat.reduceMul, Int.reduceToNat, ak]
        refine hJ30 _ ?_
        obtain ⟨j35, h36, hn⟩ := of_bind h
        refine seq_j (fun st => st = ⟨[(2, .c (.ptr (.tmp 2 0) [] 0)), (3, .c (.ptr (.tmp 3 0) [] 0))], [(.arg 0, ⟨.box, 0, [.ref (.arg 1) [] o1 l0_0.length, .sc (.int .i64 j35.1), .sc (.int .u64 j35.2.1)]⟩), (.arg 1, ⟨.fz, 1, cs1⟩), (.tmp 2 0, ⟨.box, 0, [.sc (.int .u32 0), .sc (.int .i64 0), .sc (.int .i64 0), .sc (.int .i64 0), .sc (.int .i64 0), .sc (.int .i64 0)]⟩), (.tmp 3 0, ⟨.box, 0, [.sc (.int .u32 j18.2.2), .sc (.int .i64 j35.2.2.1), .sc (.int .i64 j35.2.2.2.1), .sc (.int .i64 j35.2.2.2.2.1), .sc (.int .i64 j35.2.2.2.2.2.1), .sc (.int .i64 j35.2.2.2.2.2.2)]⟩)], [], []⟩) (fun J37 hJ37 => ?_) ?_
        · replace h := h36; clear hn
          refine ga_k fun G38 G38n G38r G38x => ?_
          refine sr_k fun J39 hJ39 => ?_
          simp +decide only [Nat.reduceAdd, Nat.reduceMul, Int.reduceToNat, ak]
          obtain ⟨t40, h41, h⟩ := of_bind h
          refine call_m [(.arg 0, ⟨(.arg 0), [], none, .box⟩), (.arg 1, ⟨(.arg 1), [], none, .fz⟩)] (s0 := [(.arg 0, ⟨.box, 0, [.ref (.arg 1) [] o1 l0_0.length, .sc (.int .i64 t31.2.1), .sc (.int .u64 t31.2.2)]⟩), (.arg 1, ⟨.fz, 1, cs1⟩)]) (by intro t ht; cases ht; decide) rfl rfl (by first | rfl | simp only [reduceCtorEq, Nat.reduceEqDiff, ak, akF]) (spec_l1Next.tri (cs1) o1 l0_0 hv1 t31.2.1 t31.2.2 10 _ h41) (by first | rfl | simp only [reduceCtorEq, Nat.reduceEqDiff, ak, akF]) (by simp [bkOk2, memK]) (fun hl41 => ?_)
          refine call_st (s4 := [(.arg 0, ⟨.box, 0, [.ref (.arg 1) [] o1 l0_0.length, .sc (.int .i64 t40.2.1), .sc (.int .u64 t40.2.2)]⟩), (.arg 1, ⟨.fz, 1, cs1⟩), (.tmp 2 0, ⟨.box, 0, [.sc (.int .u32 0), .sc (.int .i64 0), .sc (.int .i64 0), .sc (.int .i64 0), .sc (.int .i64 0), .sc (.int .i64 0)]⟩), (.tmp 3 0, ⟨.box, 0, [.sc (.int .u32 j18.2.2), .sc (.int .i64 (IntKind.i64.wrap (1 + t6.1))), .sc (.int .i64 (IntKind.i64.wrap (1 + t9.1))), .sc (.int .i64 (IntKind.i64.wrap ((IntKind.i64.wrap (1 + t9.1)) + t31.1))), .sc (.int .i64 (IntKind.i64.wrap (1 + t12.1))), .sc (.int .i64 (IntKind.i64.wrap (1 + t15.1)))]⟩)]) (m1' := []) (m2' := []) (v' := .c (.sc (.int .i64 t40.1))) (Sto.mapN_killNil _ _) (mrgL_whole (new' := [.ref (.arg 1) [] o1 l0_0.length, .sc (.int .i64 t40.2.1), .sc (.int .u64 t40.2.2)]) (mrgL_fz (mrgL_nil' _ _ _) rfl (by first | rfl | simp only [reduceCtorEq, Nat.reduceEqDiff, ak]) rfl (by intro R hR hh; cases hR; cases hh.2)) rfl (by rfl) (.inl ⟨rfl, by first | rfl | simp only [reduceCtorEq, Nat.reduceEqDiff, ak, akF, Nat.zero_add, List.append_nil]⟩)) (by rfl) (mapT_killNil _ _) (by rfl) (by rfl) (by first | rfl | simp only [reduceCtorEq, Nat.reduceEqDiff, ak, akF, Nat.zero_add, List.append_nil]) ?_
          simp +decide only [Nat.reduceAdd, Nat.reduceMul, Int.reduceToNat, ak]
          refine hJ39 _ ?_
          refine cond_k (b := decide (t40.1 = 0)) rfl (fun c43 => ?_) (fun c43 => ?_)
          · replace c43 := of_decide_eq_true c43; rw [if_pos c43] at h
            refine reg_k ?_
            simp +decide only [Nat.reduceAdd, Nat.reduceMul, Int.reduceToNat, ak]
            obtain rfl := Option.some.inj h
            refine G38n _ _ (wk [2, 3] [pI (.arg 0) .box, pI (.arg 1) .fz, pI (.tmp 2 0) .box, pI (.tmp 3 0) .box]) (hJ37 _ rfl)
          · replace c43 := of_decide_eq_false c43; rw [if_neg c43] at h
            obtain rfl := Option.some.inj h
            refine G38n _ _ (wk [2, 3] [pI (.arg 0) .box, pI (.arg 1) .fz, pI (.tmp 2 0) .box, pI (.tmp 3 0) .box]) (hJ37 _ rfl)
        · replace h := hn; clear hn h36
          rintro _ rfl
          refine sr_k fun J44 hJ44 => ?_
          simp +decide only [Nat.reduceAdd, Nat.reduceMul, Int.reduceToNat, ak]
          refine hJ44 _ ?_
          obtain rfl := Option.some.inj h
          refine hKr _ ⟨_, rfl, [], _, rfl, rfl, ?_⟩
          first | rfl | (simp only [reduceCtorEq, Nat.reduceEqDiff, ak, akF]; done) | (simp [reduceCtorEq, Nat.reduceEqDiff, ak, akF] <;> omega)
/-! ### spec.l4Begin: function 127 -/
def C127 : AC := .seq (.reg [.op none (.box 1 (.tmp 0)), .op none (.alloc 2 [.int .u32 0, .int .i64 0, .int .i64 0, .int .i64 0, .int .i64 0, .int .i64 0, .slice none 0 0, .int .i64 0, .int .i64 0, .int .i64 0, .int .i64 0, .int .i64 0, .bool false]), .gh, .keep [1, 2]]) (.seq (.reg [.op none (.load 3 true 6 (.tmp 1)), .op none (.faddr 4 2 (.tmp 1)), .op none (.load 5 false 1 (.tmp 4)), .op none (.build 6 [.int .u32 0, .int .i64 0, .int .i64 0, .int .i64 0, .int .i64 0, .int .i64 0, .slice none 0 0, .int .i64 0, .int .i64 0, .int .i64 0, .int .i64 0, .int .i64 0, .bool false] [(0, 6, .tmp 3), (9, 1, .tmp 5)]), .gh, .op none (.store 13 (.tmp 2) (.tmp 6)), .keep [2]]) (.ret))
def r127 : List RV := [.cell 2 true 13]
theorem k127 : compC Try.prog 7 C127 (Try.f127.body.getD .skip) = some C127.erase := by kernel_rfl
theorem q127 : rvsOf Try.prog Try.f127.results.toList = some r127 := by kernel_rfl
def spec_l4Begin.f (a0_0 : Int) (a0_1 : Int) (a0_2 : Int) (a0_3 : Int) (a0_4 : Int) (a0_5 : Int) : Option (Int × Int × Int × Int × Int × Int × (List Int) × Int × Int × Int × Int × Int × Bool) := (some (a0_0, a0_1, a0_2, a0_3, a0_4, a0_5, ([] : List Int), 0, 0, a0_2, 0, 0, false))
theorem spec_l4Begin.tri (a0_0 : Int) (a0_1 : Int) (a0_2 : Int) (a0_3 : Int) (a0_4 : Int) (a0_5 : Int) (r : Int × Int × Int × Int × Int × Int × (List Int) × Int × Int × Int × Int × Int × Bool) (h : spec_l4Begin.f a0_0 a0_1 a0_2 a0_3 a0_4 a0_5 = some r) : Tri Try.prog 127 [.g [.sc (.int .u32 a0_0), .sc (.int .i64 a0_1), .sc (.int .i64 a0_2), .sc (.int .i64 a0_3), .sc (.int .i64 a0_4), .sc (.int .i64 a0_5)]] [] (fun o => o = ⟨.g [.sc (.int .u32 r.1), .sc (.int .i64 r.2.1), .sc (.int .i64 r.2.2.1), .sc (.int .i64 r.2.2.2.1), .sc (.int .i64 r.2.2.2.2.1), .sc (.int .i64 r.2.2.2.2.2.1), .ref (.res 0) [] 0 r.2.2.2.2.2.2.1.length, .sc (.int .i64 r.2.2.2.2.2.2.2.1), .sc (.int .i64 r.2.2.2.2.2.2.2.2.1), .sc (.int .i64 r.2.2.2.2.2.2.2.2.2.1), .sc (.int .i64 r.2.2.2.2.2.2.2.2.2.2.1), .sc (.int .i64 r.2.2.2.2.2.2.2.2.2.2.2.1), .sc (.bool r.2.2.2.2.2.2.2.2.2.2.2.2)], [(.res 0, ⟨.lst, 1, encL c_i64 r.2.2.2.2.2.2.1⟩)], [], []⟩) := by
  refine tri_of_body (ac := C127) (xs := r127) Try.func127 (show Try.f127.body = some (Try.f127.body.getD .skip) from rfl) k127 q127 (Nat.le_of_ble_eq_true rfl) ?_
  refine body_of fun K hKn hKr => ?_
  unfold spec_l4Begin.f at h
  unfold C127
  simp only [initT, Nat.reduceAdd]
  refine sr_k fun J1 hJ1 => ?_
  simp +decide only [Nat.reduceAdd, Nat.reduceMul, Int.reduceToNat, ak]
  refine gho_k (Weak.own (.tmp 2 0) (cs' := [.sc (.int .u32 0), .sc (.int .i64 0), .sc (.int .i64 0), .sc (.int .i64 0), .sc (.int .i64 0), .sc (.int .i64 0), .own 1 (([] : List Int).length) (encL c_i64 ([] : List Int)), .sc (.int .i64 0), .sc (.int .i64 0), .sc (.int .i64 0), .sc (.int .i64 0), .sc (.int .i64 0), .sc (.bool false)]) rfl ⟨.inl rfl, .inl rfl, .inl rfl, .inl rfl, .inl rfl, .inl rfl, .inr ⟨rfl, _, rfl⟩, .inl rfl, .inl rfl, .inl rfl, .inl rfl, .inl rfl, .inl rfl, trivial⟩) ?_
  simp +decide only [Nat.reduceAdd, Nat.reduceMul, Int.reduceToNat, ak]
  refine hJ1 _ ?_
  refine sr_k fun J2 hJ2 => ?_
  simp +decide only [Nat.reduceAdd, Nat.reduceMul, Int.reduceToNat, ak]
  refine gho_k (Weak.nmg' 6 6 (.tmp 6 26) 1 (encL c_i64 ([] : List Int)) rfl rfl rfl rfl) ?_
  have g3 : (encL c_i64 ([] : List Int)).length = 0 * 1 := by simp [encL_length c_i64_w]
  simp +decide only [Nat.reduceAdd, Nat.reduceMul, Int.reduceToNat, ak, g3]
  refine hJ2 _ ?_
  obtain rfl := Option.some.inj h
  refine hKr _ ⟨_, rfl, [⟨(.tmp 2 0), [6], none, .lst⟩], _, rfl, rfl, ?_⟩
  first | rfl | (simp only [reduceCtorEq, Nat.reduceEqDiff, ak, akF]; done) | (simp [reduceCtorEq, Nat.reduceEqDiff, ak, akF] <;> omega)
/-! ### spec.l4Out: function 128 -/
def C128 : AC := .seq (.reg [.op none (.mv 2 (.const (.int .i64 0))), .keep [0]]) (.seq (.regD (.first (.op none (.mv 3 (.tmp 0))) (.first (.op none (.nilc 4 (.tmp 3))) (.first (.op none (.faddr 5 6 (.tmp 4))) (.first (.op none (.load 6 false 1 (.tmp 5))) (.first (.op none (.len 7 (.tmp 6))) (.first (.op none (.mv 8 (.tmp 0))) (.first (.op none (.nilc 9 (.tmp 8))) (.first (.op none (.faddr 10 7 (.tmp 9))) (.first (.op none (.load 11 false 1 (.tmp 10))) (.first (.op none (.bin 12 .sub (.tmp 7) (.tmp 11))) (.first (.op none (.mv 2 (.tmp 12))) (.done)))))))))))) [2]) (.ret))
def r128 : List RV := [.tmp 2]
theorem k128 : compC Try.prog 13 C128 (Try.f128.body.getD .skip) = some C128.erase := by kernel_rfl
theorem q128 : rvsOf Try.prog Try.f128.results.toList = some r128 := by kernel_rfl
def spec_l4Out.f (a0_0 : Int) (a0_1 : Int) (a0_2 : Int) (a0_3 : Int) (a0_4 : Int) (a0_5 : Int) (l0_6 : List Int) (a0_7 : Int) (a0_8 : Int) (a0_9 : Int) (a0_10 : Int) (a0_11 : Int) (a0_12 : Bool) : Option Int := (some (IntKind.i64.wrap ((l0_6.length : Int) - a0_7)))
theorem spec_l4Out.tri (a0_0 : Int) (a0_1 : Int) (a0_2 : Int) (a0_3 : Int) (a0_4 : Int) (a0_5 : Int) (l0_6 : List Int) (a0_7 : Int) (a0_8 : Int) (a0_9 : Int) (a0_10 : Int) (a0_11 : Int) (a0_12 : Bool) (r : Int) (h : spec_l4Out.f a0_0 a0_1 a0_2 a0_3 a0_4 a0_5 l0_6 a0_7 a0_8 a0_9 a0_10 a0_11 a0_12 = some r) : Tri Try.prog 128 [.c (.ptr (.arg 0) [] 0)] [(.arg 0, ⟨.box, 0, [.sc (.int .u32 a0_0), .sc (.int .i64 a0_1), .sc (.int .i64 a0_2), .sc (.int .i64 a0_3), .sc (.int .i64 a0_4), .sc (.int .i64 a0_5), .own 1 l0_6.length (encL c_i64 l0_6), .sc (.int .i64 a0_7), .sc (.int .i64 a0_8), .sc (.int .i64 a0_9), .sc (.int .i64 a0_10), .sc (.int .i64 a0_11), .sc (.bool a0_12)]⟩)] (fun o => o = ⟨.c (.sc (.int .i64 r)), [(.arg 0, ⟨.box, 0, [.sc (.int .u32 a0_0), .sc (.int .i64 a0_1), .sc (.int .i64 a0_2), .sc (.int .i64 a0_3), .sc (.int .i64 a0_4), .sc (.int .i64 a0_5), .own 1 l0_6.length (encL c_i64 l0_6), .sc (.int .i64 a0_7), .sc (.int .i64 a0_8), .sc (.int .i64 a0_9), .sc (.int .i64 a0_10), .sc (.int .i64 a0_11), .sc (.bool a0_12)]⟩)], [], []⟩) := by
  refine tri_of_body (ac := C128) (xs := r128) Try.func128 (show Try.f128.body = some (Try.f128.body.getD .skip) from rfl) k128 q128 (Nat.le_of_ble_eq_true rfl) ?_
  refine body_of fun K hKn hKr => ?_
  unfold spec_l4Out.f at h
  unfold C128
  simp only [initT, Nat.reduceAdd]
  refine sr_k fun J1 hJ1 => ?_
  simp +decide only [Nat.reduceAdd, Nat.reduceMul, Int.reduceToNat, ak]
  refine hJ1 _ ?_
  refine sd_k fun J2 hJ2 => ?_
  simp +decide only [Nat.reduceAdd, Nat.reduceMul, Int.reduceToNat, ak]
  refine hJ2 _ ?_
  obtain rfl := Option.some.inj h
  refine hKr _ ⟨_, rfl, [], _, rfl, rfl, ?_⟩
  first | rfl | (simp only [reduceCtorEq, Nat.reduceEqDiff, ak, akF]; done) | (simp [reduceCtorEq, Nat.reduceEqDiff, ak, akF] <;> omega)
/-! ### spec.l4Send: function 151 -/
def C151 : AC := .seq (.reg [.op none (.alloc 4 [.int .i64 0, .slice none 0 0, .slice none 0 0, .int .i64 0, .int .i64 0]), .gh, .keep [0, 1, 4]]) (.seq (.seq (.reg [.op none (.mv 6 (.tmp 0)), .op none (.nilc 7 (.tmp 6)), .op none (.faddr 8 12 (.tmp 7)), .op none (.load 9 false 1 (.tmp 8)), .keep [0, 1, 4, 9]]) (.cond (.tmp 9) (.seq (.reg [.op none (.build 10 [.int .i64 0, .slice none 0 0, .slice none 0 0, .int .i64 0, .int .i64 0] [(0, 1, .const (.int .i64 10))]), .gh, .op none (.store 5 (.tmp 4) (.tmp 10)), .keep [4]]) (.gh .ret)) (.skip))) (.seq (.seq (.regD (.first (.op none (.mv 11 (.tmp 0))) (.first (.op none (.mv 13 (.tmp 0))) (.first (.op none (.nilc 14 (.tmp 13))) (.first (.op none (.faddr 15 0 (.tmp 14))) (.first (.op none (.faddr 16 1 (.tmp 15))) (.pin [7] (.op none (.load 17 false 1 (.tmp 16))) (.alt (.call none (some 12) 128 [.tmp 11]) none (.pin [] (.op none (.bin 18 .geq (.tmp 12) (.tmp 17))) (.done)) (.stop)))))))) [0, 1, 4, 18]) (.cond (.tmp 18) (.seq (.reg [.op none (.build 19 [.int .i64 0, .slice none 0 0, .slice none 0 0, .int .i64 0, .int .i64 0] [(0, 1, .const (.int .i64 9))]), .gh, .op none (.store 5 (.tmp 4) (.tmp 19)), .keep [4]]) (.gh .ret)) (.skip))) (.seq (.regD (.first (.op none (.mv 20 (.tmp 0))) (.first (.op none (.nilc 21 (.tmp 20))) (.first (.op none (.faddr 22 0 (.tmp 21))) (.first (.op none (.faddr 23 0 (.tmp 22))) (.first (.op none (.load 24 false 1 (.tmp 23))) (.first (.op none (.mv 25 (.tmp 0))) (.first (.op none (.nilc 26 (.tmp 25))) (.first (.op none (.faddr 27 6 (.tmp 26))) (.first (.op none (.load 28 false 1 (.tmp 27))) (.first (.op none (.len 29 (.tmp 28))) (.first (.op none (.conv 30 .u32 (.tmp 29))) (.first (.op none (.bin 31 .add (.tmp 24) (.tmp 30))) (.first (.op none (.mv 32 (.tmp 1))) (.first (.op none (.build 33 [.int .i64 0, .int .u32 0, .int .i64 0] [(0, 1, .const (.int .i64 1)), (1, 1, .tmp 31), (2, 1, .tmp 32)])) (.alt (.op none (.alloc 5 [.int .i64 0, .int .u32 0, .int .i64 0])) none (.alt (.op none (.store 3 (.tmp 5) (.tmp 33))) none (.done) (.stop)) (.stop)))))))))))))))) [0, 1, 4, 5]) (.seq (.reg [.op none (.mv 34 (.tmp 0)), .op none (.mv 35 (.tmp 0)), .op none (.nilc 36 (.tmp 35)), .op none (.faddr 37 6 (.tmp 36)), .op none (.load 38 false 1 (.tmp 37)), .op none (.mv 39 (.tmp 1)), .op none (.bslice 40 1 [.int .i64 0] 1 [(0, .tmp 39)]), .op none (.app 41 1 8 true (.tmp 38) (.tmp 40)), .op none (.nilc 42 (.tmp 34)), .op none (.faddr 43 6 (.tmp 42)), .op none (.store 1 (.tmp 43) (.tmp 41)), .keep [0, 4, 5]]) (.seq (.ga (.seq (.reg [.op none (.mv 44 (.tmp 0)), .op none (.nilc 45 (.tmp 44)), .op none (.faddr 46 8 (.tmp 45)), .op none (.load 47 false 1 (.tmp 46)), .op none (.bin 48 .eql (.tmp 47) (.const (.int .i64 0))), .keep [0, 4, 5, 48]]) (.cond (.tmp 48) (.reg [.op none (.mv 49 (.tmp 0)), .op none (.mv 50 (.tmp 0)), .op none (.nilc 51 (.tmp 50)), .op none (.faddr 52 9 (.tmp 51)), .op none (.load 53 false 1 (.tmp 52)), .op none (.nilc 54 (.tmp 49)), .op none (.faddr 55 8 (.tmp 54)), .op none (.store 1 (.tmp 55) (.tmp 53)), .keep [4, 5]]) (.skip)))) (.seq (.reg [.op none (.load 56 true 3 (.tmp 5)), .op none (.bslice 57 3 [.int .i64 0, .int .u32 0, .int .i64 0] 1 [(0, .tmp 56)]), .op none (.build 58 [.int .i64 0, .slice none 0 0, .slice none 0 0, .int .i64 0, .int .i64 0] [(1, 1, .tmp 57)]), .gh, .op none (.store 5 (.tmp 4) (.tmp 58)), .keep [4]]) (.gh .ret)))))))
def r151 : List RV := [.cell 4 true 5]
theorem k151 : compC Try.prog 59 C151 (Try.f151.body.getD .skip) = some C151.erase := by kernel_rfl
theorem q151 : rvsOf Try.prog Try.f151.results.toList = some r151 := by kernel_rfl
def spec_l4Send.f (a0_0 : Int) (a0_1 : Int) (a0_2 : Int) (a0_3 : Int) (a0_4 : Int) (a0_5 : Int) (l0_6 : List Int) (a0_7 : Int) (a0_8 : Int) (a0_9 : Int) (a0_10 : Int) (a0_11 : Int) (a0_12 : Bool) (a1 : Int) : Option (Int × (List S68) × (List Int) × Int × Int × (List Int) × Int) := (if a0_12 = true then (some (10, ([] : List S68), ([] : List Int), 0, 0, l0_6, a0_8)) else (spec_l4Out.f a0_0 a0_1 a0_2 a0_3 a0_4 a0_5 l0_6 a0_7 a0_8 a0_9 a0_10 a0_11 a0_12 >>= fun t10 => (if t10 ≥ a0_1 then (some (9, ([] : List S68), ([] : List Int), 0, 0, l0_6, a0_8)) else (if (l0_6.length + 1) * 8 ≤ 140737488355328 then ((if a0_8 = 0 then (some a0_9) else (some a0_8)) >>= fun (j30 : Int) => (some (0, ([(⟨1, IntKind.u32.wrap (a0_0 + (IntKind.u32.wrap (l0_6.length : Int))), a1⟩ : S68)] : List S68), ([] : List Int), 0, 0, (l0_6 ++ ([a1] : List Int)), j30))) else none))))
theorem spec_l4Send.tri (a0_0 : Int) (a0_1 : Int) (a0_2 : Int) (a0_3 : Int) (a0_4 : Int) (a0_5 : Int) (l0_6 : List Int) (a0_7 : Int) (a0_8 : Int) (a0_9 : Int) (a0_10 : Int) (a0_11 : Int) (a0_12 : Bool) (a1 : Int) (r : Int × (List S68) × (List Int) × Int × Int × (List Int) × Int) (h : spec_l4Send.f a0_0 a0_1 a0_2 a0_3 a0_4 a0_5 l0_6 a0_7 a0_8 a0_9 a0_10 a0_11 a0_12 a1 = some r) : Tri Try.prog 151 [.c (.ptr (.arg 0) [] 0), .c (.sc (.int .i64 a1))] [(.arg 0, ⟨.box, 0, [.sc (.int .u32 a0_0), .sc (.int .i64 a0_1), .sc (.int .i64 a0_2), .sc (.int .i64 a0_3), .sc (.int .i64 a0_4), .sc (.int .i64 a0_5), .own 1 l0_6.length (encL c_i64 l0_6), .sc (.int .i64 a0_7), .sc (.int .i64 a0_8), .sc (.int .i64 a0_9), .sc (.int .i64 a0_10), .sc (.int .i64 a0_11), .sc (.bool a0_12)]⟩)] (fun o => o = ⟨.g [.sc (.int .i64 r.1), .ref (.res 0) [] 0 r.2.1.length, .ref (.res 1) [] 0 r.2.2.1.length, .sc (.int .i64 r.2.2.2.1), .sc (.int .i64 r.2.2.2.2.1)], [(.arg 0, ⟨.box, 0, [.sc (.int .u32 a0_0), .sc (.int .i64 a0_1), .sc (.int .i64 a0_2), .sc (.int .i64 a0_3), .sc (.int .i64 a0_4), .sc (.int .i64 a0_5), .own 1 r.2.2.2.2.2.1.length (encL c_i64 r.2.2.2.2.2.1), .sc (.int .i64 a0_7), .sc (.int .i64 r.2.2.2.2.2.2), .sc (.int .i64 a0_9), .sc (.int .i64 a0_10), .sc (.int .i64 a0_11), .sc (.bool a0_12)]⟩), (.res 0, ⟨.lst, 3, encL c68 r.2.1⟩), (.res 1, ⟨.lst, 1, encL c_i64 r.2.2.1⟩)], [0], []⟩) := by
  refine tri_of_body (ac := C151) (xs := r151) Try.func151 (show Try.f151.body = some (Try.f151.body.getD .skip) from rfl) k151 q151 (Nat.le_of_ble_eq_true rfl) ?_
  refine body_of fun K hKn hKr => ?_
  unfold spec_l4Send.f at h
  unfold C151
  simp only [initT, Nat.reduceAdd]
  refine sr_k fun J1 hJ1 => ?_
  simp +decide only [Nat.reduceAdd, Nat.reduceMul, Int.reduceToNat, ak]
  refine gho_k (Weak.own (.tmp 4 0) (cs' := [.sc (.int .i64 0), .own 3 (([] : List S68).length) (encL c68 ([] : List S68)), .own 1 (([] : List Int).length) (encL c_i64 ([] : List Int)), .sc (.int .i64 0), .sc (.int .i64 0)]) rfl ⟨.inl rfl, .inr ⟨rfl, _, rfl⟩, .inr ⟨rfl, _, rfl⟩, .inl rfl, .inl rfl, trivial⟩) ?_
  simp +decide only [Nat.reduceAdd, Nat.reduceMul, Int.reduceToNat, ak]
  refine hJ1 _ ?_
  refine seq_k fun J2 hJ2 => ?_
  refine sr_k fun J3 hJ3 => ?_
  simp +decide only [Nat.reduceAdd, Nat.reduceMul, Int.reduceToNat, ak]
  refine hJ3 _ ?_
  refine cond_k (b := a0_12) rfl (fun c4 => ?_) (fun c4 => ?_)
  · rw [if_pos c4] at h
    refine sr_k fun J5 hJ5 => ?_
    simp +decide only [Nat.reduceAdd, Nat.reduceMul, Int.reduceToNat, ak]
    refine gho_k ((Weak.nmg' 10 1 (.tmp 10 21) 3 (encL c68 ([] : List S68)) rfl rfl rfl rfl).trans (Weak.nmg' 10 2 (.tmp 10 22) 1 (encL c_i64 ([] : List Int)) rfl rfl rfl rfl)) ?_
    have g6 : (encL c68 ([] : List S68)).length = 0 * 3 := by simp [encL_length c68_w]
    have g7 : (encL c_i64 ([] : List Int)).length = 0 * 1 := by simp [encL_length c_i64_w]
    simp +decide only [Nat.reduceAdd, Nat.reduceMul, Int.reduceToNat, ak, g6, g7]
    refine hJ5 _ ?_
    refine gh_k (Weak.mark [0] [] (by simp) (by simp)) ?_
    obtain rfl := Option.some.inj h
    refine hKr _ ⟨_, rfl, [⟨(.tmp 4 0), [1], none, .lst⟩, ⟨(.tmp 4 0), [2], none, .lst⟩], _, rfl, rfl, ?_⟩
    first | rfl | (simp only [reduceCtorEq, Nat.reduceEqDiff, ak, akF]; done) | (simp [reduceCtorEq, Nat.reduceEqDiff, ak, akF] <;> omega)
  · rw [if_neg (Bool.eq_false_iff.1 c4)] at h
    refine hJ2 _ ?_
    refine seq_k fun J8 hJ8 => ?_
    refine sd_k fun J9 hJ9 => ?_
    simp +decide only [Nat.reduceAdd, Nat.reduceMul, Int.reduceToNat, ak]
    obtain ⟨t10, h11, h⟩ := of_bind h
    refine alt_e ?_
    · simp +decide only [Nat.reduceAdd, Nat.reduceMul, Int.reduceToNat, ak]
      refine call_m [(.arg 0, ⟨(.arg 0), [], none, .box⟩)] (s0 := [(.arg 0, ⟨.box, 0, [.sc (.int .u32 a0_0), .sc (.int .i64 a0_1), .sc (.int .i64 a0_2), .sc (.int .i64 a0_3), .sc (.int .i64 a0_4), .sc (.int .i64 a0_5), .own 1 l0_6.length (encL c_i64 l0_6), .sc (.int .i64 a0_7), .sc (.int .i64 a0_8), .sc (.int .i64 a0_9), .sc (.int .i64 a0_10), .sc (.int .i64 a0_11), .sc (.bool a0_12)]⟩)]) (by intro t ht; cases ht; decide) rfl rfl (by first | rfl | simp only [reduceCtorEq, Nat.reduceEqDiff, ak, akF]) (spec_l4Out.tri a0_0 a0_1 a0_2 a0_3 a0_4 a0_5 l0_6 a0_7 a0_8 a0_9 a0_10 a0_11 a0_12 _ h11) (by first | rfl | simp only [reduceCtorEq, Nat.reduceEqDiff, ak, akF]) (by simp [bkOk2, memK]) (fun hl12 => ?_)
      refine call_st (s4 := [(.arg 0, ⟨.box, 0, [.sc (.int .u32 a0_0), .sc (.int .i64 a0_1), .sc (.int .i64 a0_2), .sc (.int .i64 a0_3), .sc (.int .i64 a0_4), .sc (.int .i64 a0_5), .own 1 l0_6.length (encL c_i64 l0_6), .sc (.int .i64 a0_7), .sc (.int .i64 a0_8), .sc (.int .i64 a0_9), .sc (.int .i64 a0_10), .sc (.int .i64 a0_11), .sc (.bool a0_12)]⟩), (.tmp 4 0, ⟨.box, 0, [.sc (.int .i64 0), .own 3 (([] : List S68).length) (encL c68 ([] : List S68)), .own 1 (([] : List Int).length) (encL c_i64 ([] : List Int)), .sc (.int .i64 0), .sc (.int .i64 0)]⟩)]) (m1' := []) (m2' := []) (v' := .c (.sc (.int .i64 t10))) (Sto.mapN_killNil _ _) (mrgL_whole (new' := [.sc (.int .u32 a0_0), .sc (.int .i64 a0_1), .sc (.int .i64 a0_2), .sc (.int .i64 a0_3), .sc (.int .i64 a0_4), .sc (.int .i64 a0_5), .own 1 l0_6.length (encL c_i64 l0_6), .sc (.int .i64 a0_7), .sc (.int .i64 a0_8), .sc (.int .i64 a0_9), .sc (.int .i64 a0_10), .sc (.int .i64 a0_11), .sc (.bool a0_12)]) (mrgL_nil' _ _ _) rfl (by rfl) (.inl ⟨rfl, by first | rfl | simp only [reduceCtorEq, Nat.reduceEqDiff, ak, akF, Nat.zero_add, List.append_nil]⟩)) (by rfl) (mapT_killNil _ _) (by rfl) (by rfl) (by first | rfl | simp only [reduceCtorEq, Nat.reduceEqDiff, ak, akF, Nat.zero_add, List.append_nil]) ?_
      simp +decide only [Nat.reduceAdd, Nat.reduceMul, Int.reduceToNat, ak]
      refine hJ9 _ ?_
      refine cond_k (b := decide (t10 ≥ a0_1)) rfl (fun c14 => ?_) (fun c14 => ?_)
      · replace c14 := of_decide_eq_true c14; rw [if_pos c14] at h
        refine sr_k fun J15 hJ15 => ?_
        simp +decide only [Nat.reduceAdd, Nat.reduceMul, Int.reduceToNat, ak]
        refine gho_k ((Weak.nmg' 19 1 (.tmp 19 21) 3 (encL c68 ([] : List S68)) rfl rfl rfl rfl).trans (Weak.nmg' 19 2 (.tmp 19 22) 1 (encL c_i64 ([] : List Int)) rfl rfl rfl rfl)) ?_
        have g16 : (encL c68 ([] : List S68)).length = 0 * 3 := by simp [encL_length c68_w]
        have g17 : (encL c_i64 ([] : List Int)).length = 0 * 1 := by simp [encL_length c_i64_w]
        simp +decide only [Nat.reduceAdd, Nat.reduceMul, Int.reduceToNat, ak, g16, g17]
        refine hJ15 _ ?_
        refine gh_k (Weak.mark [0] [] (by simp) (by simp)) ?_
        obtain rfl := Option.some.inj h
        refine hKr _ ⟨_, rfl, [⟨(.tmp 4 0), [1], none, .lst⟩, ⟨(.tmp 4 0), [2], none, .lst⟩], _, rfl, rfl, ?_⟩
        first | rfl | (simp only [reduceCtorEq, Nat.reduceEqDiff, ak, akF]; done) | (simp [reduceCtorEq, Nat.reduceEqDiff, ak, akF] <;> omega)
      · replace c14 := of_decide_eq_false c14; rw [if_neg c14] at h
        refine hJ8 _ ?_
        refine sd_k fun J18 hJ18 => ?_
        simp +decide only [Nat.reduceAdd, Nat.reduceMul, Int.reduceToNat, ak]
        refine alt_e ?_
        · simp +decide only [Nat.reduceAdd, Nat.reduceMul, Int.reduceToNat, ak]
          refine alt_e ?_
          · simp +decide only [Nat.reduceAdd, Nat.reduceMul, Int.reduceToNat, ak]
            refine hJ18 _ ?_
            refine sr_k fun J19 hJ19 => ?_
            have g20 : (List.replicate 1 ([.int .i64 0] : List Value)).flatten = [.int .i64 0] := rfl
            have g21 : (⟨.lst, 1, [.sc (.int .i64 a1)]⟩ : Root) = ⟨.lst, 1, encL c_i64 ([a1] : List Int)⟩ := rfl
            have g22 : ([a1] : List Int).length = 1 := rfl
            have g23 : (encL c_i64 ([a1] : List Int)).length = 1 * 1 := by simp [encL_length c_i64_w]
            have g24 : (encL c_i64 ([a1] : List Int)).all nd = true := rfl
            obtain ⟨b25, h⟩ := of_guard h
            have g26 : appLim l0_6.length 1 8 := ⟨b25, by have := b25; omega⟩
            have g27 : (encL c_i64 l0_6).length = l0_6.length * 1 := by simp [encL_length c_i64_w]
            have g28 : encL c_i64 l0_6 ++ encL c_i64 ([a1] : List Int) = encL c_i64 (l0_6 ++ ([a1] : List Int)) := (encL_append _ _).symm
            have g29 : (encL c_i64 (l0_6 ++ ([a1] : List Int))).length = (l0_6.length + 1) * 1 := by simp [encL_length c_i64_w]
            simp +decide only [Nat.reduceAdd, Nat.reduceMul, Int.reduceToNat, ak, g20, g21, g22, g23, g24, g26, g27, g28, g29]
            refine hJ19 _ ?_
            obtain ⟨j30, h31, hn⟩ := of_bind h
            refine seq_j (fun st => st = ⟨[(4, .c (.ptr (.tmp 4 0) [] 0)), (5, .c (.ptr (.tmp 5 0) [] 0))], [(.arg 0, ⟨.box, 0, [.sc (.int .u32 a0_0), .sc (.int .i64 a0_1), .sc (.int .i64 a0_2), .sc (.int .i64 a0_3), .sc (.int .i64 a0_4), .sc (.int .i64 a0_5), .own 1 (l0_6.length + 1) (encL c_i64 (l0_6 ++ ([a1] : List Int))), .sc (.int .i64 a0_7), .sc (.int .i64 j30), .sc (.int .i64 a0_9), .sc (.int .i64 a0_10), .sc (.int .i64 a0_11), .sc (.bool a0_12)]⟩), (.tmp 4 0, ⟨.box, 0, [.sc (.int .i64 0), .own 3 (([] : List S68).length) (encL c68 ([] : List S68)), .own 1 (([] : List Int).length) (encL c_i64 ([] : List Int)), .sc (.int .i64 0), .sc (.int .i64 0)]⟩), (.tmp 5 0, ⟨.box, 0, [.sc (.int .i64 1), .sc (.int .u32 (IntKind.u32.wrap (a0_0 + (IntKind.u32.wrap (l0_6.length : Int))))), .sc (.int .i64 a1)]⟩)], [0], []⟩) (fun J32 hJ32 => ?_) ?_
            · replace h := h31; clear hn
              refine ga_k fun G33 G33n G33r G33x => ?_
              refine sr_k fun J34 hJ34 => ?_
              simp +decide only [Nat.reduceAdd, Nat.reduceMul, Int.reduceToNat, ak]
              refine hJ34 _ ?_
              refine cond_k (b := decide (a0_8 = 0)) rfl (fun c35 => ?_) (fun c35 => ?_)
              · replace c35 := of_decide_eq_true c35; rw [if_pos c35] at h
                refine reg_k ?_
                simp +decide only [Nat.reduceAdd, Nat.reduceMul, Int.reduceToNat, ak]
                obtain rfl := Option.some.inj h
                refine G33n _ _ (wkm [0] [] [4, 5] [pI (.arg 0) .box, pI (.tmp 4 0) .box, pI (.tmp 5 0) .box] (h0 := by first | rfl | simp +decide only [ak, akF, b25]) (h := by first | rfl | (simp +decide only [ak, akF, b25]; done) | (simp +decide [ak, akF, b25] <;> omega))) (hJ32 _ rfl)
              · replace c35 := of_decide_eq_false c35; rw [if_neg c35] at h
                obtain rfl := Option.some.inj h
                refine G33n _ _ (wkm [0] [] [4, 5] [pI (.arg 0) .box, pI (.tmp 4 0) .box, pI (.tmp 5 0) .box] (h0 := by first | rfl | simp +decide only [ak, akF, b25]) (h := by first | rfl | (simp +decide only [ak, akF, b25]; done) | (simp +decide [ak, akF, b25] <;> omega))) (hJ32 _ rfl)
            · replace h := hn; clear hn h31
              rintro _ rfl
              refine sr_k fun J36 hJ36 => ?_
              have g37 : (List.replicate 1 ([.int .i64 0, .int .u32 0, .int .i64 0] : List Value)).flatten = [.int .i64 0, .int .u32 0, .int .i64 0] := rfl
              have g38 : (⟨.lst, 3, [.sc (.int .i64 1), .sc (.int .u32 (IntKind.u32.wrap (a0_0 + (IntKind.u32.wrap (l0_6.length : Int))))), .sc (.int .i64 a1)]⟩ : Root) = ⟨.lst, 3, encL c68 ([(⟨1, IntKind.u32.wrap (a0_0 + (IntKind.u32.wrap (l0_6.length : Int))), a1⟩ : S68)] : List S68)⟩ := rfl
              have g39 : ([(⟨1, IntKind.u32.wrap (a0_0 + (IntKind.u32.wrap (l0_6.length : Int))), a1⟩ : S68)] : List S68).length = 1 := rfl
              simp +decide only [Nat.reduceAdd, Nat.reduceMul, Int.reduceToNat, ak, g37, g38, g39]
              refine gho_k (Weak.nmg' 58 2 (.tmp 58 22) 1 (encL c_i64 ([] : List Int)) rfl rfl rfl rfl) ?_
              have g40 : (encL c68 ([(⟨1, IntKind.u32.wrap (a0_0 + (IntKind.u32.wrap (l0_6.length : Int))), a1⟩ : S68)] : List S68)).length = 1 * 3 := by simp [encL_length c68_w]
              have g41 : (encL c_i64 ([] : List Int)).length = 0 * 1 := by simp [encL_length c_i64_w]
              simp +decide only [Nat.reduceAdd, Nat.reduceMul, Int.reduceToNat, ak, g40, g41]
              refine hJ36 _ ?_
              refine gh_k (Weak.mark [0] [] (by simp) (by simp)) ?_
              obtain rfl := Option.some.inj h
              refine hKr _ ⟨_, rfl, [⟨(.tmp 4 0), [1], none, .lst⟩, ⟨(.tmp 4 0), [2], none, .lst⟩], _, rfl, rfl, ?_⟩
              first | rfl | (simp only [reduceCtorEq, Nat.reduceEqDiff, ak, akF, b25]; done) | (simp [reduceCtorEq, Nat.reduceEqDiff, ak, akF, b25] <;> omega)
/-! ### spec.l4Again: function 162 -/
def C162_l0 : AC := .seq (.seq (.reg [.op none (.mv 10 (.tmp 4)), .op none (.mv 11 (.tmp 0)), .op none (.nilc 12 (.tmp 11)), .op none (.faddr 13 6 (.tmp 12)), .op none (.load 14 false 1 (.tmp 13)), .op none (.len 15 (.tmp 14)), .op none (.bin 16 .lss (.tmp 10) (.tmp 15)), .keep [0, 3, 4, 16]]) (.cond (.tmp 16) (.skip) (.gh (.exit 0)))) (.seq (.block 1 (.regD (.first (.op none (.mv 19 (.tmp 3))) (.first (.op none (.mv 20 (.tmp 0))) (.first (.op none (.nilc 21 (.tmp 20))) (.first (.op none (.faddr 22 0 (.tmp 21))) (.first (.op none (.faddr 23 0 (.tmp 22))) (.first (.op none (.load 24 false 1 (.tmp 23))) (.first (.op none (.mv 25 (.tmp 4))) (.first (.op none (.conv 26 .u32 (.tmp 25))) (.first (.op none (.bin 27 .add (.tmp 24) (.tmp 26))) (.first (.op none (.mv 28 (.tmp 0))) (.first (.op none (.nilc 29 (.tmp 28))) (.first (.op none (.faddr 30 6 (.tmp 29))) (.first (.op none (.load 31 false 1 (.tmp 30))) (.first (.op none (.mv 32 (.tmp 4))) (.first (.op none (.iaddr 33 1 (.tmp 31) (.tmp 32))) (.first (.op none (.load 34 false 1 (.tmp 33))) (.first (.op none (.build 35 [.int .i64 0, .int .u32 0, .int .i64 0] [(0, 1, .const (.int .i64 2)), (1, 1, .tmp 27), (2, 1, .tmp 34)])) (.alt (.op none (.bslice 36 3 [.int .i64 0, .int .u32 0, .int .i64 0] 1 [(0, .tmp 35)])) none (.alt (.op none (.app 37 3 24 false (.tmp 19) (.tmp 36))) none (.first (.op none (.mv 3 (.tmp 37))) (.done)) (.stop)) (.stop))))))))))))))))))) [0, 3, 4])) (.reg [.op none (.mv 17 (.tmp 4)), .op none (.bin 18 .add (.tmp 17) (.const (.int .i64 1))), .op none (.mv 4 (.tmp 18)), .keep [0, 3, 4]]))
def C162 : AC := .seq (.reg [.op none (.mv 2 (.const (.slice none 0 0))), .gh, .keep [0]]) (.seq (.reg [.op none (.bslice 5 3 [.int .i64 0, .int .u32 0, .int .i64 0] 0 []), .op none (.mv 3 (.tmp 5)), .keep [0, 3]]) (.seq (.seq (.reg [.op none (.mv 6 (.tmp 0)), .op none (.nilc 7 (.tmp 6)), .op none (.faddr 8 7 (.tmp 7)), .op none (.load 9 false 1 (.tmp 8)), .op none (.mv 4 (.tmp 9)), .keep [0, 3, 4]]) (.block 0 (.gh (.loop (.ga C162_l0))))) (.seq (.reg [.op none (.mv 38 (.tmp 3)), .op none (.mv 2 (.tmp 38)), .keep [2]]) (.ret))))
def r162 : List RV := [.tmp 2]
theorem k162 : compC Try.prog 39 C162 (Try.f162.body.getD .skip) = some C162.erase := by kernel_rfl
theorem q162 : rvsOf Try.prog Try.f162.results.toList = some r162 := by kernel_rfl
def spec_l4Again.l0 (x0_1 : Int) (x0_2 : Int) (x0_3 : Int) (x0_4 : Int) (x0_5 : Int) (x0_6 : Int) (x0_7 : (List Int)) (x0_8 : Int) (x0_9 : Int) (x0_10 : Int) (x0_11 : Int) (x0_12 : Int) (x0_13 : Bool) (x0_0 : Int) (x0_14 : (List S68)) : Option (List S68) := (if x0_0 < (x0_7.length : Int) then (if 0 ≤ x0_0 ∧ x0_0 < (x0_7.length : Int) then (if (x0_14.length + 1) * 24 ≤ 140737488355328 then (spec_l4Again.l0 x0_1 x0_2 x0_3 x0_4 x0_5 x0_6 x0_7 x0_8 x0_9 x0_10 x0_11 x0_12 x0_13 (IntKind.i64.wrap (x0_0 + 1)) (x0_14 ++ ([(⟨2, IntKind.u32.wrap (x0_1 + (IntKind.u32.wrap x0_0)), (rd 0 x0_7 x0_0)⟩ : S68)] : List S68))) else none) else none) else (some x0_14))
  partial_fixpoint
def spec_l4Again.f (a0_0 : Int) (a0_1 : Int) (a0_2 : Int) (a0_3 : Int) (a0_4 : Int) (a0_5 : Int) (l0_6 : List Int) (a0_7 : Int) (a0_8 : Int) (a0_9 : Int) (a0_10 : Int) (a0_11 : Int) (a0_12 : Bool) : Option (List S68) := (spec_l4Again.l0 a0_0 a0_1 a0_2 a0_3 a0_4 a0_5 l0_6 a0_7 a0_8 a0_9 a0_10 a0_11 a0_12 a0_7 ([] : List S68) >>= fun (y43 : (List S68)) => (some y43))
def spec_l4Again.l0_M (x0_1 : Int) (x0_2 : Int) (x0_3 : Int) (x0_4 : Int) (x0_5 : Int) (x0_6 : Int) (x0_7 : (List Int)) (x0_8 : Int) (x0_9 : Int) (x0_10 : Int) (x0_11 : Int) (x0_12 : Int) (x0_13 : Bool) (x0_0 : Int) (x0_14 : (List S68)) (y : (List S68)) : Prop := ∀ (K : AE → St → Prop), (K (.exit 0) ⟨[(3, .c (.ref (.tmp 5 0) [] 0 y.length))], [(.arg 0, ⟨.box, 0, [.sc (.int .u32 x0_1), .sc (.int .i64 x0_2), .sc (.int .i64 x0_3), .sc (.int .i64 x0_4), .sc (.int .i64 x0_5), .sc (.int .i64 x0_6), .own 1 x0_7.length (encL c_i64 x0_7), .sc (.int .i64 x0_8), .sc (.int .i64 x0_9), .sc (.int .i64 x0_10), .sc (.int .i64 x0_11), .sc (.int .i64 x0_12), .sc (.bool x0_13)]⟩), (.tmp 5 0, ⟨.lst, 3, encL c68 y⟩)], [], []⟩) → loopS Try.prog 39 (.ga C162_l0) K ⟨[(0, .c (.ptr (.arg 0) [] 0)), (3, .c (.ref (.tmp 5 0) [] 0 x0_14.length)), (4, .c (.sc (.int .i64 x0_0)))], [(.arg 0, ⟨.box, 0, [.sc (.int .u32 x0_1), .sc (.int .i64 x0_2), .sc (.int .i64 x0_3), .sc (.int .i64 x0_4), .sc (.int .i64 x0_5), .sc (.int .i64 x0_6), .own 1 x0_7.length (encL c_i64 x0_7), .sc (.int .i64 x0_8), .sc (.int .i64 x0_9), .sc (.int .i64 x0_10), .sc (.int .i64 x0_11), .sc (.int .i64 x0_12), .sc (.bool x0_13)]⟩), (.tmp 5 0, ⟨.lst, 3, encL c68 x0_14⟩)], [], []⟩
theorem spec_l4Again.l0_walk (x0_1 : Int) (x0_2 : Int) (x0_3 : Int) (x0_4 : Int) (x0_5 : Int) (x0_6 : Int) (x0_7 : (List Int)) (x0_8 : Int) (x0_9 : Int) (x0_10 : Int) (x0_11 : Int) (x0_12 : Int) (x0_13 : Bool) (x0_0 : Int) (x0_14 : (List S68)) (y : (List S68)) (h : spec_l4Again.l0 x0_1 x0_2 x0_3 x0_4 x0_5 x0_6 x0_7 x0_8 x0_9 x0_10 x0_11 x0_12 x0_13 x0_0 x0_14 = some y) : spec_l4Again.l0_M x0_1 x0_2 x0_3 x0_4 x0_5 x0_6 x0_7 x0_8 x0_9 x0_10 x0_11 x0_12 x0_13 x0_0 x0_14 y := by
  refine spec_l4Again.l0.partial_correctness x0_1 x0_2 x0_3 x0_4 x0_5 x0_6 x0_7 x0_8 x0_9 x0_10 x0_11 x0_12 x0_13 (motive := fun x0_0 x0_14 y => spec_l4Again.l0_M x0_1 x0_2 x0_3 x0_4 x0_5 x0_6 x0_7 x0_8 x0_9 x0_10 x0_11 x0_12 x0_13 x0_0 x0_14 y) ?_ x0_0 x0_14 y h
  clear h
  unfold spec_l4Again.l0_M
  intro rec ih x0_0 x0_14 y h K hx0
  refine loop_unroll (ga_k fun G0 G0n G0r G0x => ?_)
  unfold C162_l0
  refine seq_k fun J9 hJ9 => ?_
  refine sr_k fun J10 hJ10 => ?_
  simp +decide only [Nat.reduceAdd, Nat.reduceMul, Int.reduceToNat, ak]
  refine hJ10 _ ?_
  refine cond_k (b := decide (x0_0 < (x0_7.length : Int))) rfl (fun c11 => ?_) (fun c11 => ?_)
  · replace c11 := of_decide_eq_true c11; rw [if_pos c11] at h
    refine hJ9 _ ?_
    refine seq_k fun J12 hJ12 => ?_
    refine block_k fun B13 B13n B13x B13r B13j => ?_
    refine regD_k ?_
    obtain ⟨b14, h⟩ := of_guard h
    have g15 : (encL c_i64 x0_7)[0 + x0_0.toNat * 1]? = some (.sc (.int .i64 (rd 0 x0_7 x0_0))) := (Vw.whole c_i64_w x0_7).get 0 0 b14.1 b14.2 (by decide)
    simp +decide only [Nat.reduceAdd, Nat.reduceMul, Int.reduceToNat, ak, b14, g15]
    obtain ⟨b21, h⟩ := of_guard h
    refine alt_e ?_
    · have g30 : (List.replicate 1 ([.int .i64 0, .int .u32 0, .int .i64 0] : List Value)).flatten = [.int .i64 0, .int .u32 0, .int .i64 0] := rfl
      have g31 : (⟨.lst, 3, [.sc (.int .i64 2), .sc (.int .u32 (IntKind.u32.wrap (x0_1 + (IntKind.u32.wrap x0_0)))), .sc (.int .i64 (rd 0 x0_7 x0_0))]⟩ : Root) = ⟨.lst, 3, encL c68 ([(⟨2, IntKind.u32.wrap (x0_1 + (IntKind.u32.wrap x0_0)), (rd 0 x0_7 x0_0)⟩ : S68)] : List S68)⟩ := rfl
      have g32 : ([(⟨2, IntKind.u32.wrap (x0_1 + (IntKind.u32.wrap x0_0)), (rd 0 x0_7 x0_0)⟩ : S68)] : List S68).length = 1 := rfl
      simp +decide only [Nat.reduceAdd, Nat.reduceMul, Int.reduceToNat, ak, g30, g31, g32]
      refine alt_e ?_
      · have g38 : (encL c68 ([(⟨2, IntKind.u32.wrap (x0_1 + (IntKind.u32.wrap x0_0)), (rd 0 x0_7 x0_0)⟩ : S68)] : List S68)).take 3 = encL c68 ([(⟨2, IntKind.u32.wrap (x0_1 + (IntKind.u32.wrap x0_0)), (rd 0 x0_7 x0_0)⟩ : S68)] : List S68) := by simpa using (Vw.whole c68_w ([(⟨2, IntKind.u32.wrap (x0_1 + (IntKind.u32.wrap x0_0)), (rd 0 x0_7 x0_0)⟩ : S68)] : List S68)).all
        have g39 : (encL c68 ([(⟨2, IntKind.u32.wrap (x0_1 + (IntKind.u32.wrap x0_0)), (rd 0 x0_7 x0_0)⟩ : S68)] : List S68)).all isSc = true := encL_all (fun _ => rfl) _
        have g40 : appLim x0_14.length 1 24 := ⟨b21, by have := b21; omega⟩
        have g41 : (encL c68 x0_14).length = x0_14.length * 3 := by simp [encL_length c68_w]
        have g42 : encL c68 x0_14 ++ encL c68 ([(⟨2, IntKind.u32.wrap (x0_1 + (IntKind.u32.wrap x0_0)), (rd 0 x0_7 x0_0)⟩ : S68)] : List S68) = encL c68 (x0_14 ++ ([(⟨2, IntKind.u32.wrap (x0_1 + (IntKind.u32.wrap x0_0)), (rd 0 x0_7 x0_0)⟩ : S68)] : List S68)) := (encL_append _ _).symm
        simp +decide only [Nat.reduceAdd, Nat.reduceMul, Int.reduceToNat, ak, g38, g39, g40, g41, g42]
        refine B13n _ ?_
        refine hJ12 _ ?_
        refine reg_k ?_
        simp +decide only [Nat.reduceAdd, Nat.reduceMul, Int.reduceToNat, ak]
        refine G0n _ _ (wk [0, 3, 4] [pI (.arg 0) .box, pI (.tmp 5 0) .lst] (h0 := by first | rfl | simp +decide only [ak, akF, b14, b21]) (h := by first | rfl | (simp +decide only [ak, akF, b14, b21]; done) | (simp +decide [ak, akF, b14, b21] <;> omega))) (ih _ _ _ h K hx0)
  · replace c11 := of_decide_eq_false c11; rw [if_neg c11] at h
    obtain rfl := Option.some.inj h
    refine gh_k (wk [3] [pI (.arg 0) .box, pI (.tmp 5 0) .lst]) ?_
    refine G0x _ _ ?_
    exact hx0
theorem spec_l4Again.tri (a0_0 : Int) (a0_1 : Int) (a0_2 : Int) (a0_3 : Int) (a0_4 : Int) (a0_5 : Int) (l0_6 : List Int) (a0_7 : Int) (a0_8 : Int) (a0_9 : Int) (a0_10 : Int) (a0_11 : Int) (a0_12 : Bool) (r : (List S68)) (h : spec_l4Again.f a0_0 a0_1 a0_2 a0_3 a0_4 a0_5 l0_6 a0_7 a0_8 a0_9 a0_10 a0_11 a0_12 = some r) : Tri Try.prog 162 [.c (.ptr (.arg 0) [] 0)] [(.arg 0, ⟨.box, 0, [.sc (.int .u32 a0_0), .sc (.int .i64 a0_1), .sc (.int .i64 a0_2), .sc (.int .i64 a0_3), .sc (.int .i64 a0_4), .sc (.int .i64 a0_5), .own 1 l0_6.length (encL c_i64 l0_6), .sc (.int .i64 a0_7), .sc (.int .i64 a0_8), .sc (.int .i64 a0_9), .sc (.int .i64 a0_10), .sc (.int .i64 a0_11), .sc (.bool a0_12)]⟩)] (fun o => o = ⟨.c (.ref (.res 0) [] 0 r.length), [(.arg 0, ⟨.box, 0, [.sc (.int .u32 a0_0), .sc (.int .i64 a0_1), .sc (.int .i64 a0_2), .sc (.int .i64 a0_3), .sc (.int .i64 a0_4), .sc (.int .i64 a0_5), .own 1 l0_6.length (encL c_i64 l0_6), .sc (.int .i64 a0_7), .sc (.int .i64 a0_8), .sc (.int .i64 a0_9), .sc (.int .i64 a0_10), .sc (.int .i64 a0_11), .sc (.bool a0_12)]⟩), (.res 0, ⟨.lst, 3, encL c68 r⟩)], [], []⟩) := by
  refine tri_of_body (ac := C162) (xs := r162) Try.func162 (show Try.f162.body = some (Try.f162.body.getD .skip) from rfl) k162 q162 (Nat.le_of_ble_eq_true rfl) ?_
  refine body_of fun K hKn hKr => ?_
  unfold spec_l4Again.f at h
  unfold C162
  simp only [initT, Nat.reduceAdd]
  refine sr_k fun J1 hJ1 => ?_
  simp +decide only [Nat.reduceAdd, Nat.reduceMul, Int.reduceToNat, ak]
  refine gho_k (Weak.nm' 2 (.tmp 2 20) 3 (encL c68 ([] : List S68)) rfl rfl rfl) ?_
  simp +decide only [Nat.reduceAdd, Nat.reduceMul, Int.reduceToNat, ak]
  refine hJ1 _ ?_
  refine sr_k fun J2 hJ2 => ?_
  have g3 : (List.replicate 0 ([.int .i64 0, .int .u32 0, .int .i64 0] : List Value)).flatten = [] := rfl
  have g4 : (⟨.lst, 3, []⟩ : Root) = ⟨.lst, 3, encL c68 ([] : List S68)⟩ := rfl
  have g5 : ([] : List S68).length = 0 := rfl
  simp +decide only [Nat.reduceAdd, Nat.reduceMul, Int.reduceToNat, ak, g3, g4, g5]
  refine hJ2 _ ?_
  refine seq_k fun J6 hJ6 => ?_
  refine sr_k fun J7 hJ7 => ?_
  simp +decide only [Nat.reduceAdd, Nat.reduceMul, Int.reduceToNat, ak]
  refine hJ7 _ ?_
  refine block_k fun B8 B8n B8x B8r B8j => ?_
  obtain ⟨y43, h44, h⟩ := of_bind h
  refine gh_k (st' := ⟨[(0, .c (.ptr (.arg 0) [] 0)), (3, .c (.ref (.tmp 5 0) [] 0 (([] : List S68).length))), (4, .c (.sc (.int .i64 a0_7)))], [(.arg 0, ⟨.box, 0, [.sc (.int .u32 a0_0), .sc (.int .i64 a0_1), .sc (.int .i64 a0_2), .sc (.int .i64 a0_3), .sc (.int .i64 a0_4), .sc (.int .i64 a0_5), .own 1 l0_6.length (encL c_i64 l0_6), .sc (.int .i64 a0_7), .sc (.int .i64 a0_8), .sc (.int .i64 a0_9), .sc (.int .i64 a0_10), .sc (.int .i64 a0_11), .sc (.bool a0_12)]⟩), (.tmp 5 0, ⟨.lst, 3, encL c68 ([] : List S68)⟩)], [], []⟩) (wk [0, 3, 4] [pI (.arg 0) .box, pI (.tmp 5 0) .lst] (h := by first | rfl | (simp +decide only [ak, akF]; done) | (simp +decide [ak, akF] <;> omega))) ?_
  rw [e_loop]
  refine spec_l4Again.l0_walk a0_0 a0_1 a0_2 a0_3 a0_4 a0_5 l0_6 a0_7 a0_8 a0_9 a0_10 a0_11 a0_12 a0_7 ([] : List S68) _ h44 _ ?_
  refine B8x _ ?_
  refine hJ6 _ ?_
  refine sr_k fun J45 hJ45 => ?_
  simp +decide only [Nat.reduceAdd, Nat.reduceMul, Int.reduceToNat, ak]
  refine hJ45 _ ?_
  obtain rfl := Option.some.inj h
  refine hKr _ ⟨_, rfl, [⟨(.tmp 5 0), [], none, .lst⟩], _, rfl, rfl, ?_⟩
  first | rfl | (simp only [reduceCtorEq, Nat.reduceEqDiff, ak, akF]; done) | (simp [reduceCtorEq, Nat.reduceEqDiff, ak, akF] <;> omega)
/-! ### spec.l4Clock: function 163 -/
def C163 : AC := .seq (.reg [.op none (.mv 2 (.tmp 0)), .op none (.mv 3 (.tmp 0)), .op none (.nilc 4 (.tmp 3)), .op none (.faddr 5 0 (.tmp 4)), .op none (.faddr 6 2 (.tmp 5)), .op none (.load 7 false 1 (.tmp 6)), .op none (.nilc 8 (.tmp 2)), .op none (.faddr 9 9 (.tmp 8)), .op none (.store 1 (.tmp 9) (.tmp 7)), .keep [0]]) (.seq (.reg [.op none (.mv 10 (.tmp 0)), .op none (.nilc 11 (.tmp 10)), .op none (.faddr 12 10 (.tmp 11)), .op none (.store 1 (.tmp 12) (.const (.int .i64 0))), .keep [0]]) (.seq (.reg [.op none (.mv 13 (.tmp 0)), .op none (.nilc 14 (.tmp 13)), .op none (.faddr 15 8 (.tmp 14)), .op none (.store 1 (.tmp 15) (.const (.int .i64 0))), .keep [0]]) (.seq (.reg [.op none (.mv 16 (.tmp 0)), .call none (some 17) 128 [.tmp 16], .op none (.bin 18 .gtr (.tmp 17) (.const (.int .i64 0))), .keep [0, 18]]) (.cond (.tmp 18) (.reg [.op none (.mv 19 (.tmp 0)), .op none (.mv 20 (.tmp 0)), .op none (.nilc 21 (.tmp 20)), .op none (.faddr 22 9 (.tmp 21)), .op none (.load 23 false 1 (.tmp 22)), .op none (.nilc 24 (.tmp 19)), .op none (.faddr 25 8 (.tmp 24)), .op none (.store 1 (.tmp 25) (.tmp 23)), .keep []]) (.skip)))))
def r163 : List RV := []
theorem k163 : compC Try.prog 26 C163 (Try.f163.body.getD .skip) = some C163.erase := by kernel_rfl
theorem q163 : rvsOf Try.prog Try.f163.results.toList = some r163 := by kernel_rfl
def spec_l4Clock.f (a0_0 : Int) (a0_1 : Int) (a0_2 : Int) (a0_3 : Int) (a0_4 : Int) (a0_5 : Int) (l0_6 : List Int) (a0_7 : Int) (a0_8 : Int) (a0_9 : Int) (a0_10 : Int) (a0_11 : Int) (a0_12 : Bool) : Option (Int × Int × Int) := (spec_l4Out.f a0_0 a0_1 a0_2 a0_3 a0_4 a0_5 l0_6 a0_7 0 a0_2 0 a0_11 a0_12 >>= fun t5 => (if t5 > 0 then (some (a0_2, a0_2, 0)) else (some (0, a0_2, 0))))
theorem spec_l4Clock.tri (a0_0 : Int) (a0_1 : Int) (a0_2 : Int) (a0_3 : Int) (a0_4 : Int) (a0_5 : Int) (l0_6 : List Int) (a0_7 : Int) (a0_8 : Int) (a0_9 : Int) (a0_10 : Int) (a0_11 : Int) (a0_12 : Bool) (r : Int × Int × Int) (h : spec_l4Clock.f a0_0 a0_1 a0_2 a0_3 a0_4 a0_5 l0_6 a0_7 a0_8 a0_9 a0_10 a0_11 a0_12 = some r) : Tri Try.prog 163 [.c (.ptr (.arg 0) [] 0)] [(.arg 0, ⟨.box, 0, [.sc (.int .u32 a0_0), .sc (.int .i64 a0_1), .sc (.int .i64 a0_2), .sc (.int .i64 a0_3), .sc (.int .i64 a0_4), .sc (.int .i64 a0_5), .own 1 l0_6.length (encL c_i64 l0_6), .sc (.int .i64 a0_7), .sc (.int .i64 a0_8), .sc (.int .i64 a0_9), .sc (.int .i64 a0_10), .sc (.int .i64 a0_11), .sc (.bool a0_12)]⟩)] (fun o => o = ⟨.tup [], [(.arg 0, ⟨.box, 0, [.sc (.int .u32 a0_0), .sc (.int .i64 a0_1), .sc (.int .i64 a0_2), .sc (.int .i64 a0_3), .sc (.int .i64 a0_4), .sc (.int .i64 a0_5), .own 1 l0_6.length (encL c_i64 l0_6), .sc (.int .i64 a0_7), .sc (.int .i64 r.1), .sc (.int .i64 r.2.1), .sc (.int .i64 r.2.2), .sc (.int .i64 a0_11), .sc (.bool a0_12)]⟩)], [], []⟩) := by
  refine tri_of_body (ac := C163) (xs := r163) Try.func163 (show Try.f163.body = some (Try.f163.body.getD .skip) from rfl) k163 q163 (Nat.le_of_ble_eq_true rfl) ?_
  refine body_of fun K hKn hKr => ?_
  unfold spec_l4Clock.f at h
  unfold C163
  simp only [initT, Nat.reduceAdd]
  refine sr_k fun J1 hJ1 => ?_
  simp +decide only [Nat.reduceAdd, Nat.reduceMul, Int.reduceToNat, ak]
  refine hJ1 _ ?_
  refine sr_k fun J2 hJ2 => ?_
  simp +decide only [Nat.reduceAdd, Nat.reduceMul, Int.reduceToNat, ak]
  refine hJ2 _ ?_
  refine sr_k fun J3 hJ3 => ?_
  simp +decide only [Nat.reduceAdd, Nat.reduceMul, Int.reduceToNat, ak]
  refine hJ3 _ ?_
  refine sr_k fun J4 hJ4 => ?_
  simp +decide only [Nat.reduceAdd, Nat.reduceMul, Int.reduceToNat, ak]
  obtain ⟨t5, h6, h⟩ := of_bind h
  refine call_m [(.arg 0, ⟨(.arg 0), [], none, .box⟩)] (s0 := [(.arg 0, ⟨.box, 0, [.sc (.int .u32 a0_0), .sc (.int .i64 a0_1), .sc (.int .i64 a0_2), .sc (.int .i64 a0_3), .sc (.int .i64 a0_4), .sc (.int .i64 a0_5), .own 1 l0_6.length (encL c_i64 l0_6), .sc (.int .i64 a0_7), .sc (.int .i64 0), .sc (.int .i64 a0_2), .sc (.int .i64 0), .sc (.int .i64 a0_11), .sc (.bool a0_12)]⟩)]) (by intro t ht; cases ht; decide) rfl rfl (by first | rfl | simp only [reduceCtorEq, Nat.reduceEqDiff, ak, akF]) (spec_l4Out.tri a0_0 a0_1 a0_2 a0_3 a0_4 a0_5 l0_6 a0_7 0 a0_2 0 a0_11 a0_12 _ h6) (by first | rfl | simp only [reduceCtorEq, Nat.reduceEqDiff, ak, akF]) (by simp [bkOk2, memK]) (fun hl6 => ?_)
  refine call_st (s4 := [(.arg 0, ⟨.box, 0, [.sc (.int .u32 a0_0), .sc (.int .i64 a0_1), .sc (.int .i64 a0_2), .sc (.int .i64 a0_3), .sc (.int .i64 a0_4), .sc (.int .i64 a0_5), .own 1 l0_6.length (encL c_i64 l0_6), .sc (.int .i64 a0_7), .sc (.int .i64 0), .sc (.int .i64 a0_2), .sc (.int .i64 0), .sc (.int .i64 a0_11), .sc (.bool a0_12)]⟩)]) (m1' := []) (m2' := []) (v' := .c (.sc (.int .i64 t5))) (Sto.mapN_killNil _ _) (mrgL_whole (new' := [.sc (.int .u32 a0_0), .sc (.int .i64 a0_1), .sc (.int .i64 a0_2), .sc (.int .i64 a0_3), .sc (.int .i64 a0_4), .sc (.int .i64 a0_5), .own 1 l0_6.length (encL c_i64 l0_6), .sc (.int .i64 a0_7), .sc (.int .i64 0), .sc (.int .i64 a0_2), .sc (.int .i64 0), .sc (.int .i64 a0_11), .sc (.bool a0_12)]) (mrgL_nil' _ _ _) rfl (by rfl) (.inl ⟨rfl, by first | rfl | simp only [reduceCtorEq, Nat.reduceEqDiff, ak, akF, Nat.zero_add, List.append_nil]⟩)) (by rfl) (mapT_killNil _ _) (by rfl) (by rfl) (by first | rfl | simp only [reduceCtorEq, Nat.reduceEqDiff, ak, akF, Nat.zero_add, List.append_nil]) ?_
  simp +decide only [Nat.reduceAdd, Nat.reduceMul, Int.reduceToNat, ak]
  refine hJ4 _ ?_
  refine cond_k (b := decide (t5 > 0)) rfl (fun c8 => ?_) (fun c8 => ?_)
  · replace c8 := of_decide_eq_true c8; rw [if_pos c8] at h
    refine reg_k ?_
    simp +decide only [Nat.reduceAdd, Nat.reduceMul, Int.reduceToNat, ak]
    obtain rfl := Option.some.inj h
    refine hKn _ ⟨_, rfl, [], _, rfl, rfl, ?_⟩
    first | rfl | (simp only [reduceCtorEq, Nat.reduceEqDiff, ak, akF]; done) | (simp [reduceCtorEq, Nat.reduceEqDiff, ak, akF] <;> omega)
  · replace c8 := of_decide_eq_false c8; rw [if_neg c8] at h
    obtain rfl := Option.some.inj h
    refine hKn _ ⟨_, rfl, [], _, rfl, rfl, ?_⟩
    first | rfl | (simp only [reduceCtorEq, Nat.reduceEqDiff, ak, akF]; done) | (simp [reduceCtorEq, Nat.reduceEqDiff, ak, akF] <;> omega)
/-! ### spec.l4Ack: function 152 -/
def C152_l0 : AC := .seq (.seq (.reg [.op none (.mv 14 (.tmp 6)), .op none (.mv 15 (.tmp 0)), .op none (.nilc 16 (.tmp 15)), .op none (.faddr 17 6 (.tmp 16)), .op none (.load 18 false 1 (.tmp 17)), .op none (.len 19 (.tmp 18)), .op none (.bin 20 .leq (.tmp 14) (.tmp 19)), .keep [0, 1, 4, 5, 6, 20]]) (.cond (.tmp 20) (.skip) (.gh (.exit 0)))) (.seq (.ga (.block 1 (.seq (.reg [.op none (.mv 23 (.tmp 0)), .op none (.nilc 24 (.tmp 23)), .op none (.faddr 25 0 (.tmp 24)), .op none (.faddr 26 0 (.tmp 25)), .op none (.load 27 false 1 (.tmp 26)), .op none (.mv 28 (.tmp 6)), .op none (.conv 29 .u32 (.tmp 28)), .op none (.bin 30 .add (.tmp 27) (.tmp 29)), .op none (.mv 31 (.tmp 1)), .op none (.bin 32 .eql (.tmp 30) (.tmp 31)), .keep [0, 1, 4, 5, 6, 32]]) (.cond (.tmp 32) (.reg [.op none (.mv 33 (.tmp 6)), .op none (.mv 5 (.tmp 33)), .keep [0, 1, 4, 5, 6]]) (.skip))))) (.reg [.op none (.mv 21 (.tmp 6)), .op none (.bin 22 .add (.tmp 21) (.const (.int .i64 1))), .op none (.mv 6 (.tmp 22)), .keep [0, 1, 4, 5, 6]]))
def C152_l1 : AC := .seq (.seq (.reg [.op none (.mv 42 (.tmp 8)), .op none (.mv 43 (.tmp 5)), .op none (.bin 44 .lss (.tmp 42) (.tmp 43)), .keep [0, 4, 5, 7, 8, 44]]) (.cond (.tmp 44) (.skip) (.gh (.exit 2)))) (.seq (.block 3 (.regD (.first (.op none (.faddr 47 2 (.tmp 7))) (.first (.op none (.load 48 false 1 (.tmp 47))) (.first (.op none (.mv 49 (.tmp 0))) (.first (.op none (.nilc 50 (.tmp 49))) (.first (.op none (.faddr 51 6 (.tmp 50))) (.first (.op none (.load 52 false 1 (.tmp 51))) (.first (.op none (.mv 53 (.tmp 8))) (.first (.op none (.iaddr 54 1 (.tmp 52) (.tmp 53))) (.first (.op none (.load 55 false 1 (.tmp 54))) (.alt (.op none (.bslice 56 1 [.int .i64 0] 1 [(0, .tmp 55)])) none (.alt (.op none (.app 57 1 8 false (.tmp 48) (.tmp 56))) none (.first (.op none (.faddr 58 2 (.tmp 7))) (.alt (.op none (.store 1 (.tmp 58) (.tmp 57))) none (.done) (.stop))) (.stop)) (.stop))))))))))) [0, 4, 5, 7, 8])) (.reg [.op none (.mv 45 (.tmp 8)), .op none (.bin 46 .add (.tmp 45) (.const (.int .i64 1))), .op none (.mv 8 (.tmp 46)), .keep [0, 4, 5, 7, 8]]))
def C152 : AC := .seq (.reg [.op none (.alloc 4 [.int .i64 0, .slice none 0 0, .slice none 0 0, .int .i64 0, .int .i64 0]), .gh, .keep [0, 1, 4]]) (.seq (.reg [.op none (.mv 5 (.const (.int .i64 (-1)))), .keep [0, 1, 4, 5]]) (.seq (.seq (.reg [.op none (.mv 10 (.tmp 0)), .op none (.nilc 11 (.tmp 10)), .op none (.faddr 12 7 (.tmp 11)), .op none (.load 13 false 1 (.tmp 12)), .op none (.mv 6 (.tmp 13)), .keep [0, 1, 4, 5, 6]]) (.block 0 (.gh (.loop (.ga C152_l0))))) (.seq (.seq (.reg [.op none (.mv 34 (.tmp 5)), .op none (.bin 35 .lss (.tmp 34) (.const (.int .i64 0))), .keep [0, 4, 5, 35]]) (.cond (.tmp 35) (.seq (.reg [.op none (.build 36 [.int .i64 0, .slice none 0 0, .slice none 0 0, .int .i64 0, .int .i64 0] [(0, 1, .const (.int .i64 11))]), .gh, .op none (.store 5 (.tmp 4) (.tmp 36)), .keep [4]]) (.ret)) (.skip))) (.seq (.reg [.op none (.build 37 [.int .i64 0, .slice none 0 0, .slice none 0 0, .int .i64 0, .int .i64 0] []), .gh, .op none (.alloc 7 [.int .i64 0, .slice none 0 0, .slice none 0 0, .int .i64 0, .int .i64 0]), .gh, .op none (.store 5 (.tmp 7) (.tmp 37)), .keep [0, 4, 5, 7]]) (.seq (.seq (.reg [.op none (.mv 38 (.tmp 0)), .op none (.nilc 39 (.tmp 38)), .op none (.faddr 40 7 (.tmp 39)), .op none (.load 41 false 1 (.tmp 40)), .op none (.mv 8 (.tmp 41)), .keep [0, 4, 5, 7, 8]]) (.block 2 (.gh (.loop (.ga C152_l1))))) (.seq (.reg [.op none (.mv 59 (.tmp 5)), .op none (.mv 60 (.tmp 0)), .op none (.nilc 61 (.tmp 60)), .op none (.faddr 62 7 (.tmp 61)), .op none (.load 63 false 1 (.tmp 62)), .op none (.bin 64 .gtr (.tmp 59) (.tmp 63)), .op none (.mv 9 (.tmp 64)), .keep [0, 4, 5, 7, 9]]) (.seq (.reg [.op none (.mv 65 (.tmp 0)), .op none (.mv 66 (.tmp 5)), .op none (.nilc 67 (.tmp 65)), .op none (.faddr 68 7 (.tmp 67)), .op none (.store 1 (.tmp 68) (.tmp 66)), .keep [0, 4, 7, 9]]) (.seq (.ga (.seq (.reg [.op none (.mv 69 (.tmp 0)), .op none (.nilc 70 (.tmp 69)), .op none (.faddr 71 12 (.tmp 70)), .op none (.load 72 false 1 (.tmp 71)), .keep [0, 4, 7, 9, 72]]) (.cond (.tmp 72) (.seq (.reg [.op none (.mv 73 (.tmp 0)), .op none (.nilc 74 (.tmp 73)), .op none (.faddr 75 12 (.tmp 74)), .op none (.store 1 (.tmp 75) (.const (.bool false))), .keep [0, 4, 7]]) (.seq (.reg [.op none (.mv 76 (.tmp 0)), .op none (.nilc 77 (.tmp 76)), .op none (.faddr 78 11 (.tmp 77)), .op none (.store 1 (.tmp 78) (.const (.int .i64 0))), .keep [0, 4, 7]]) (.seq (.reg [.op none (.faddr 79 4 (.tmp 7)), .op none (.store 1 (.tmp 79) (.const (.int .i64 1))), .keep [0, 4, 7]]) (.seq (.reg [.op none (.mv 80 (.tmp 0)), .call none (some 81) 162 [.tmp 80], .op none (.faddr 82 1 (.tmp 7)), .op none (.store 1 (.tmp 82) (.tmp 81)), .keep [0, 4, 7]]) (.reg [.op none (.mv 83 (.tmp 0)), .call none (some 84) 163 [.tmp 83], .keep [4, 7]]))))) (.seq (.reg [.op none (.mv 85 (.tmp 9)), .keep [0, 4, 7, 85]]) (.cond (.tmp 85) (.reg [.op none (.mv 86 (.tmp 0)), .call none (some 87) 163 [.tmp 86], .keep [4, 7]]) (.skip)))))) (.seq (.reg [.op none (.load 88 true 5 (.tmp 7)), .op none (.store 5 (.tmp 4) (.tmp 88)), .keep [4]]) (.ret))))))))))
def r152 : List RV := [.cell 4 true 5]
theorem k152 : compC Try.prog 89 C152 (Try.f152.body.getD .skip) = some C152.erase := by kernel_rfl
theorem q152 : rvsOf Try.prog Try.f152.results.toList = some r152 := by kernel_rfl
def spec_l4Ack.l0 (x0_0 : Int) (x0_3 : Int) (x0_4 : Int) (x0_5 : Int) (x0_6 : Int) (x0_7 : Int) (x0_8 : Int) (x0_9 : (List Int)) (x0_10 : Int) (x0_11 : Int) (x0_12 : Int) (x0_13 : Int) (x0_14 : Int) (x0_15 : Bool) (x0_16 : Int) (x0_17 : (List S68)) (x0_18 : (List Int)) (x0_19 : Int) (x0_20 : Int) (x0_1 : Int) (x0_2 : Int) : Option Int := (if x0_2 ≤ (x0_9.length : Int) then ((if IntKind.u32.wrap (x0_3 + (IntKind.u32.wrap x0_2)) = x0_0 then (some x0_2) else (some x0_1)) >>= fun (j9 : Int) => (spec_l4Ack.l0 x0_0 x0_3 x0_4 x0_5 x0_6 x0_7 x0_8 x0_9 x0_10 x0_11 x0_12 x0_13 x0_14 x0_15 x0_16 x0_17 x0_18 x0_19 x0_20 j9 (IntKind.i64.wrap (x0_2 + 1)))) else (some x0_1))
  partial_fixpoint
def spec_l4Ack.l1 (x1_0 : Int) (x1_2 : Int) (x1_3 : Int) (x1_4 : Int) (x1_5 : Int) (x1_6 : Int) (x1_7 : Int) (x1_8 : (List Int)) (x1_9 : Int) (x1_10 : Int) (x1_11 : Int) (x1_12 : Int) (x1_13 : Int) (x1_14 : Bool) (x1_15 : Int) (x1_16 : (List S68)) (x1_17 : (List Int)) (x1_18 : Int) (x1_19 : Int) (x1_20 : Int) (x1_21 : (List S68)) (x1_23 : Int) (x1_24 : Int) (x1_1 : Int) (x1_22 : (List Int)) : Option (List Int) := (if x1_1 < x1_0 then (if 0 ≤ x1_1 ∧ x1_1 < (x1_8.length : Int) then (if (x1_22.length + 1) * 8 ≤ 140737488355328 then (spec_l4Ack.l1 x1_0 x1_2 x1_3 x1_4 x1_5 x1_6 x1_7 x1_8 x1_9 x1_10 x1_11 x1_12 x1_13 x1_14 x1_15 x1_16 x1_17 x1_18 x1_19 x1_20 x1_21 x1_23 x1_24 (IntKind.i64.wrap (x1_1 + 1)) (x1_22 ++ ([(rd 0 x1_8 x1_1)] : List Int))) else none) else none) else (some x1_22))
  partial_fixpoint
def spec_l4Ack.f (a0_0 : Int) (a0_1 : Int) (a0_2 : Int) (a0_3 : Int) (a0_4 : Int) (a0_5 : Int) (l0_6 : List Int) (a0_7 : Int) (a0_8 : Int) (a0_9 : Int) (a0_10 : Int) (a0_11 : Int) (a0_12 : Bool) (a1 : Int) : Option (Int × (List S68) × (List Int) × Int × Int × Int × Int × Int × Int × Int × Bool) := (spec_l4Ack.l0 a1 a0_0 a0_1 a0_2 a0_3 a0_4 a0_5 l0_6 a0_7 a0_8 a0_9 a0_10 a0_11 a0_12 0 ([] : List S68) ([] : List Int) 0 0 (-1) a0_7 >>= fun (y16 : Int) => (if y16 < 0 then (some (11, ([] : List S68), ([] : List Int), 0, 0, a0_7, a0_8, a0_9, a0_10, a0_11, a0_12)) else (spec_l4Ack.l1 y16 a0_0 a0_1 a0_2 a0_3 a0_4 a0_5 l0_6 a0_7 a0_8 a0_9 a0_10 a0_11 a0_12 0 ([] : List S68) ([] : List Int) 0 0 0 ([] : List S68) 0 0 a0_7 ([] : List Int) >>= fun (y72 : (List Int)) => ((if a0_12 = true then (spec_l4Again.f a0_0 a0_1 a0_2 a0_3 a0_4 a0_5 l0_6 y16 a0_8 a0_9 a0_10 0 false >>= fun t86 => (spec_l4Clock.f a0_0 a0_1 a0_2 a0_3 a0_4 a0_5 l0_6 y16 a0_8 a0_9 a0_10 0 false >>= fun t90 => (some (t90.1, t90.2.1, t90.2.2, 0, false, t86, 1)))) else (if y16 > a0_7 then (spec_l4Clock.f a0_0 a0_1 a0_2 a0_3 a0_4 a0_5 l0_6 y16 a0_8 a0_9 a0_10 a0_11 a0_12 >>= fun t95 => (some (t95.1, t95.2.1, t95.2.2, a0_11, a0_12, ([] : List S68), 0))) else (some (a0_8, a0_9, a0_10, a0_11, a0_12, ([] : List S68), 0)))) >>= fun (j76 : Int × Int × Int × Int × Bool × (List S68) × Int) => (some (0, j76.2.2.2.2.2.1, y72, 0, j76.2.2.2.2.2.2, y16, j76.1, j76.2.1, j76.2.2.1, j76.2.2.2.1, j76.2.2.2.2.1))))))
def spec_l4Ack.l0_M (x0_0 : Int) (x0_3 : Int) (x0_4 : Int) (x0_5 : Int) (x0_6 : Int) (x0_7 : Int) (x0_8 : Int) (x0_9 : (List Int)) (x0_10 : Int) (x0_11 : Int) (x0_12 : Int) (x0_13 : Int) (x0_14 : Int) (x0_15 : Bool) (x0_16 : Int) (x0_17 : (List S68)) (x0_18 : (List Int)) (x0_19 : Int) (x0_20 : Int) (x0_1 : Int) (x0_2 : Int) (y : Int) : Prop := ∀ (K : AE → St → Prop), (K (.exit 0) ⟨[(0, .c (.ptr (.arg 0) [] 0)), (4, .c (.ptr (.tmp 4 0) [] 0)), (5, .c (.sc (.int .i64 y)))], [(.arg 0, ⟨.box, 0, [.sc (.int .u32 x0_3), .sc (.int .i64 x0_4), .sc (.int .i64 x0_5), .sc (.int .i64 x0_6), .sc (.int .i64 x0_7), .sc (.int .i64 x0_8), .own 1 x0_9.length (encL c_i64 x0_9), .sc (.int .i64 x0_10), .sc (.int .i64 x0_11), .sc (.int .i64 x0_12), .sc (.int .i64 x0_13), .sc (.int .i64 x0_14), .sc (.bool x0_15)]⟩), (.tmp 4 0, ⟨.box, 0, [.sc (.int .i64 x0_16), .own 3 x0_17.length (encL c68 x0_17), .own 1 x0_18.length (encL c_i64 x0_18), .sc (.int .i64 x0_19), .sc (.int .i64 x0_20)]⟩)], [], []⟩) → loopS Try.prog 89 (.ga C152_l0) K ⟨[(0, .c (.ptr (.arg 0) [] 0)), (1, .c (.sc (.int .u32 x0_0))), (4, .c (.ptr (.tmp 4 0) [] 0)), (5, .c (.sc (.int .i64 x0_1))), (6, .c (.sc (.int .i64 x0_2)))], [(.arg 0, ⟨.box, 0, [.sc (.int .u32 x0_3), .sc (.int .i64 x0_4), .sc (.int .i64 x0_5), .sc (.int .i64 x0_6), .sc (.int .i64 x0_7), .sc (.int .i64 x0_8), .own 1 x0_9.length (encL c_i64 x0_9), .sc (.int .i64 x0_10), .sc (.int .i64 x0_11), .sc (.int .i64 x0_12), .sc (.int .i64 x0_13), .sc (.int .i64 x0_14), .sc (.bool x0_15)]⟩), (.tmp 4 0, ⟨.box, 0, [.sc (.int .i64 x0_16), .own 3 x0_17.length (encL c68 x0_17), .own 1 x0_18.length (encL c_i64 x0_18), .sc (.int .i64 x0_19), .sc (.int .i64 x0_20)]⟩)], [], []⟩
theorem spec_l4Ack.l0_walk (x0_0 : Int) (x0_3 : Int) (x0_4 : Int) (x0_5 : Int) (x0_6 : Int) (x0_7 : Int) (x0_8 : Int) (x0_9 : (List Int)) (x0_10 : Int) (x0_11 : Int) (x0_12 : Int) (x0_13 : Int) (x0_14 : Int) (x0_15 : Bool) (x0_16 : Int) (x0_17 : (List S68)) (x0_18 : (List Int)) (x0_19 : Int) (x0_20 : Int) (x0_1 : Int) (x0_2 : Int) (y : Int) (h : spec_l4Ack.l0 x0_0 x0_3 x0_4 x0_5 x0_6 x0_7 x0_8 x0_9 x0_10 x0_11 x0_12 x0_13 x0_14 x0_15 x0_16 x0_17 x0_18 x0_19 x0_20 x0_1 x0_2 = some y) : spec_l4Ack.l0_M x0_0 x0_3 x0_4 x0_5 x0_6 x0_7 x0_8 x0_9 x0_10 x0_11 x0_12 x0_13 x0_14 x0_15 x0_16 x0_17 x0_18 x0_19 x0_20 x0_1 x0_2 y := by
  refine spec_l4Ack.l0.partial_correctness x0_0 x0_3 x0_4 x0_5 x0_6 x0_7 x0_8 x0_9 x0_10 x0_11 x0_12 x0_13 x0_14 x0_15 x0_16 x0_17 x0_18 x0_19 x0_20 (motive := fun x0_1 x0_2 y => spec_l4Ack.l0_M x0_0 x0_3 x0_4 x0_5 x0_6 x0_7 x0_8 x0_9 x0_10 x0_11 x0_12 x0_13 x0_14 x0_15 x0_16 x0_17 x0_18 x0_19 x0_20 x0_1 x0_2 y) ?_ x0_1 x0_2 y h
  clear h
  unfold spec_l4Ack.l0_M
  intro rec ih x0_1 x0_2 y h K hx0
  refine loop_unroll (ga_k fun G0 G0n G0r G0x => ?_)
  unfold C152_l0
  refine seq_k fun J6 hJ6 => ?_
  refine sr_k fun J7 hJ7 => ?_
  simp +decide only [Nat.reduceAdd, Nat.reduceMul, Int.reduceToNat, ak]
  refine hJ7 _ ?_
  refine cond_k (b := decide (x0_2 ≤ (x0_9.length : Int))) rfl (fun c8 => ?_) (fun c8 => ?_)
  · replace c8 := of_decide_eq_true c8; rw [if_pos c8] at h
    refine hJ6 _ ?_
    obtain ⟨j9, h10, hn⟩ := of_bind h
    refine seq_j (fun st => st = ⟨[(0, .c (.ptr (.arg 0) [] 0)), (1, .c (.sc (.int .u32 x0_0))), (4, .c (.ptr (.tmp 4 0) [] 0)), (5, .c (.sc (.int .i64 j9))), (6, .c (.sc (.int .i64 x0_2)))], [(.arg 0, ⟨.box, 0, [.sc (.int .u32 x0_3), .sc (.int .i64 x0_4), .sc (.int .i64 x0_5), .sc (.int .i64 x0_6), .sc (.int .i64 x0_7), .sc (.int .i64 x0_8), .own 1 x0_9.length (encL c_i64 x0_9), .sc (.int .i64 x0_10), .sc (.int .i64 x0_11), .sc (.int .i64 x0_12), .sc (.int .i64 x0_13), .sc (.int .i64 x0_14), .sc (.bool x0_15)]⟩), (.tmp 4 0, ⟨.box, 0, [.sc (.int .i64 x0_16), .own 3 x0_17.length (encL c68 x0_17), .own 1 x0_18.length (encL c_i64 x0_18), .sc (.int .i64 x0_19), .sc (.int .i64 x0_20)]⟩)], [], []⟩) (fun J11 hJ11 => ?_) ?_
    · replace h := h10; clear hn
      refine ga_k fun G12 G12n G12r G12x => ?_
      refine block_k fun B13 B13n B13x B13r B13j => ?_
      refine sr_k fun J14 hJ14 => ?_
      simp +decide only [Nat.reduceAdd, Nat.reduceMul, Int.reduceToNat, ak]
      refine hJ14 _ ?_
      refine cond_k (b := decide (IntKind.u32.wrap (x0_3 + (IntKind.u32.wrap x0_2)) = x0_0)) rfl (fun c15 => ?_) (fun c15 => ?_)
      · replace c15 := of_decide_eq_true c15; rw [if_pos c15] at h
        refine reg_k ?_
        simp +decide only [Nat.reduceAdd, Nat.reduceMul, Int.reduceToNat, ak]
        refine B13n _ ?_
        obtain rfl := Option.some.inj h
        refine G12n _ _ (wk [0, 1, 4, 5, 6] [pI (.arg 0) .box, pI (.tmp 4 0) .box]) (hJ11 _ rfl)
      · replace c15 := of_decide_eq_false c15; rw [if_neg c15] at h
        refine B13n _ ?_
        obtain rfl := Option.some.inj h
        refine G12n _ _ (wk [0, 1, 4, 5, 6] [pI (.arg 0) .box, pI (.tmp 4 0) .box]) (hJ11 _ rfl)
    · replace h := hn; clear hn h10
      rintro _ rfl
      refine reg_k ?_
      simp +decide only [Nat.reduceAdd, Nat.reduceMul, Int.reduceToNat, ak]
      refine G0n _ _ (wk [0, 1, 4, 5, 6] [pI (.arg 0) .box, pI (.tmp 4 0) .box]) (ih _ _ _ h K hx0)
  · replace c8 := of_decide_eq_false c8; rw [if_neg c8] at h
    obtain rfl := Option.some.inj h
    refine gh_k (wk [0, 4, 5] [pI (.arg 0) .box, pI (.tmp 4 0) .box]) ?_
    refine G0x _ _ ?_
    exact hx0
def spec_l4Ack.l1_M (x1_0 : Int) (x1_2 : Int) (x1_3 : Int) (x1_4 : Int) (x1_5 : Int) (x1_6 : Int) (x1_7 : Int) (x1_8 : (List Int)) (x1_9 : Int) (x1_10 : Int) (x1_11 : Int) (x1_12 : Int) (x1_13 : Int) (x1_14 : Bool) (x1_15 : Int) (x1_16 : (List S68)) (x1_17 : (List Int)) (x1_18 : Int) (x1_19 : Int) (x1_20 : Int) (x1_21 : (List S68)) (x1_23 : Int) (x1_24 : Int) (x1_1 : Int) (x1_22 : (List Int)) (y : (List Int)) : Prop := ∀ (K : AE → St → Prop), (K (.exit 2) ⟨[(0, .c (.ptr (.arg 0) [] 0)), (4, .c (.ptr (.tmp 4 0) [] 0)), (5, .c (.sc (.int .i64 x1_0))), (7, .c (.ptr (.tmp 7 0) [] 0))], [(.arg 0, ⟨.box, 0, [.sc (.int .u32 x1_2), .sc (.int .i64 x1_3), .sc (.int .i64 x1_4), .sc (.int .i64 x1_5), .sc (.int .i64 x1_6), .sc (.int .i64 x1_7), .own 1 x1_8.length (encL c_i64 x1_8), .sc (.int .i64 x1_9), .sc (.int .i64 x1_10), .sc (.int .i64 x1_11), .sc (.int .i64 x1_12), .sc (.int .i64 x1_13), .sc (.bool x1_14)]⟩), (.tmp 4 0, ⟨.box, 0, [.sc (.int .i64 x1_15), .own 3 x1_16.length (encL c68 x1_16), .own 1 x1_17.length (encL c_i64 x1_17), .sc (.int .i64 x1_18), .sc (.int .i64 x1_19)]⟩), (.tmp 7 0, ⟨.box, 0, [.sc (.int .i64 x1_20), .own 3 x1_21.length (encL c68 x1_21), .own 1 y.length (encL c_i64 y), .sc (.int .i64 x1_23), .sc (.int .i64 x1_24)]⟩)], [], []⟩) → loopS Try.prog 89 (.ga C152_l1) K ⟨[(0, .c (.ptr (.arg 0) [] 0)), (4, .c (.ptr (.tmp 4 0) [] 0)), (5, .c (.sc (.int .i64 x1_0))), (7, .c (.ptr (.tmp 7 0) [] 0)), (8, .c (.sc (.int .i64 x1_1)))], [(.arg 0, ⟨.box, 0, [.sc (.int .u32 x1_2), .sc (.int .i64 x1_3), .sc (.int .i64 x1_4), .sc (.int .i64 x1_5), .sc (.int .i64 x1_6), .sc (.int .i64 x1_7), .own 1 x1_8.length (encL c_i64 x1_8), .sc (.int .i64 x1_9), .sc (.int .i64 x1_10), .sc (.int .i64 x1_11), .sc (.int .i64 x1_12), .sc (.int .i64 x1_13), .sc (.bool x1_14)]⟩), (.tmp 4 0, ⟨.box, 0, [.sc (.int .i64 x1_15), .own 3 x1_16.length (encL c68 x1_16), .own 1 x1_17.length (encL c_i64 x1_17), .sc (.int .i64 x1_18), .sc (.int .i64 x1_19)]⟩), (.tmp 7 0, ⟨.box, 0, [.sc (.int .i64 x1_20), .own 3 x1_21.length (encL c68 x1_21), .own 1 x1_22.length (encL c_i64 x1_22), .sc (.int .i64 x1_23), .sc (.int .i64 x1_24)]⟩)], [], []⟩
theorem spec_l4Ack.l1_walk (x1_0 : Int) (x1_2 : Int) (x1_3 : Int) (x1_4 : Int) (x1_5 : Int) (x1_6 : Int) (x1_7 : Int) (x1_8 : (List Int)) (x1_9 : Int) (x1_10 : Int) (x1_11 : Int) (x1_12 : Int) (x1_13 : Int) (x1_14 : Bool) (x1_15 : Int) (x1_16 : (List S68)) (x1_17 : (List Int)) (x1_18 : Int) (x1_19 : Int) (x1_20 : Int) (x1_21 : (List S68)) (x1_23 : Int) (x1_24 : Int) (x1_1 : Int) (x1_22 : (List Int)) (y : (List Int)) (h : spec_l4Ack.l1 x1_0 x1_2 x1_3 x1_4 x1_5 x1_6 x1_7 x1_8 x1_9 x1_10 x1_11 x1_12 x1_13 x1_14 x1_15 x1_16 x1_17 x1_18 x1_19 x1_20 x1_21 x1_23 x1_24 x1_1 x1_22 = some y) : spec_l4Ack.l1_M x1_0 x1_2 x1_3 x1_4 x1_5 x1_6 x1_7 x1_8 x1_9 x1_10 x1_11 x1_12 x1_13 x1_14 x1_15 x1_16 x1_17 x1_18 x1_19 x1_20 x1_21 x1_23 x1_24 x1_1 x1_22 y := by
  refine spec_l4Ack.l1.partial_correctness x1_0 x1_2 x1_3 x1_4 x1_5 x1_6 x1_7 x1_8 x1_9 x1_10 x1_11 x1_12 x1_13 x1_14 x1_15 x1_16 x1_17 x1_18 x1_19 x1_20 x1_21 x1_23 x1_24 (motive := fun x1_1 x1_22 y => spec_l4Ack.l1_M x1_0 x1_2 x1_3 x1_4 x1_5 x1_6 x1_7 x1_8 x1_9 x1_10 x1_11 x1_12 x1_13 x1_14 x1_15 x1_16 x1_17 x1_18 x1_19 x1_20 x1_21 x1_23 x1_24 x1_1 x1_22 y) ?_ x1_1 x1_22 y h
  clear h
  unfold spec_l4Ack.l1_M
  intro rec ih x1_1 x1_22 y h K hx0
  refine loop_unroll (ga_k fun G1 G1n G1r G1x => ?_)
  unfold C152_l1
  refine seq_k fun J30 hJ30 => ?_
  refine sr_k fun J31 hJ31 => ?_
  simp +decide only [Nat.reduceAdd, Nat.reduceMul, Int.reduceToNat, ak]
  refine hJ31 _ ?_
  refine cond_k (b := decide (x1_1 < x1_0)) rfl (fun c32 => ?_) (fun c32 => ?_)
  · replace c32 := of_decide_eq_true c32; rw [if_pos c32] at h
    refine hJ30 _ ?_
    refine seq_k fun J33 hJ33 => ?_
    refine block_k fun B34 B34n B34x B34r B34j => ?_
    refine regD_k ?_
    obtain ⟨b35, h⟩ := of_guard h
    have g36 : (encL c_i64 x1_8)[0 + x1_1.toNat * 1]? = some (.sc (.int .i64 (rd 0 x1_8 x1_1))) := (Vw.whole c_i64_w x1_8).get 0 0 b35.1 b35.2 (by decide)
    simp +decide only [Nat.reduceAdd, Nat.reduceMul, Int.reduceToNat, ak, b35, g36]
    obtain ⟨b42, h⟩ := of_guard h
    refine alt_e ?_
    · have g55 : (List.replicate 1 ([.int .i64 0] : List Value)).flatten = [.int .i64 0] := rfl
      have g56 : (⟨.lst, 1, [.sc (.int .i64 (rd 0 x1_8 x1_1))]⟩ : Root) = ⟨.lst, 1, encL c_i64 ([(rd 0 x1_8 x1_1)] : List Int)⟩ := rfl
      have g57 : ([(rd 0 x1_8 x1_1)] : List Int).length = 1 := rfl
      simp +decide only [Nat.reduceAdd, Nat.reduceMul, Int.reduceToNat, ak, g55, g56, g57]
      refine alt_e ?_
      · have g65 : (encL c_i64 ([(rd 0 x1_8 x1_1)] : List Int)).take 1 = encL c_i64 ([(rd 0 x1_8 x1_1)] : List Int) := by simpa using (Vw.whole c_i64_w ([(rd 0 x1_8 x1_1)] : List Int)).all
        have g66 : (encL c_i64 ([(rd 0 x1_8 x1_1)] : List Int)).all isSc = true := encL_all (fun _ => rfl) _
        have g67 : appLim x1_22.length 1 8 := ⟨b42, by have := b42; omega⟩
        have g68 : (encL c_i64 x1_22).length = x1_22.length * 1 := by simp [encL_length c_i64_w]
        have g69 : encL c_i64 x1_22 ++ encL c_i64 ([(rd 0 x1_8 x1_1)] : List Int) = encL c_i64 (x1_22 ++ ([(rd 0 x1_8 x1_1)] : List Int)) := (encL_append _ _).symm
        simp +decide only [Nat.reduceAdd, Nat.reduceMul, Int.reduceToNat, ak, g65, g66, g67, g68, g69]
        refine alt_e ?_
        · have g71 : (encL c_i64 (x1_22 ++ ([(rd 0 x1_8 x1_1)] : List Int))).length = (x1_22.length + 1) * 1 := by simp [encL_length c_i64_w]
          simp +decide only [Nat.reduceAdd, Nat.reduceMul, Int.reduceToNat, ak, g71]
          refine B34n _ ?_
          refine hJ33 _ ?_
          refine reg_k ?_
          simp +decide only [Nat.reduceAdd, Nat.reduceMul, Int.reduceToNat, ak]
          refine G1n _ _ (wk [0, 4, 5, 7, 8] [pI (.arg 0) .box, pI (.tmp 4 0) .box, pI (.tmp 7 0) .box] (h0 := by first | rfl | simp +decide only [ak, akF, b35, b42]) (h := by first | rfl | (simp +decide only [ak, akF, b35, b42]; done) | (simp +decide [ak, akF, b35, b42] <;> omega))) (ih _ _ _ h K hx0)
  · replace c32 := of_decide_eq_false c32; rw [if_neg c32] at h
    obtain rfl := Option.some.inj h
    refine gh_k (wk [0, 4, 5, 7] [pI (.arg 0) .box, pI (.tmp 4 0) .box, pI (.tmp 7 0) .box]) ?_
    refine G1x _ _ ?_
    exact hx0
theorem spec_l4Ack.tri (a0_0 : Int) (a0_1 : Int) (a0_2 : Int) (a0_3 : Int) (a0_4 : Int) (a0_5 : Int) (l0_6 : List Int) (a0_7 : Int) (a0_8 : Int) (a0_9 : Int) (a0_10 : Int) (a0_11 : Int) (a0_12 : Bool) (a1 : Int) (r : Int × (List S68) × (List Int) × Int × Int × Int × Int × Int × Int × Int × Bool) (h : spec_l4Ack.f a0_0 a0_1 a0_2 a0_3 a0_4 a0_5 l0_6 a0_7 a0_8 a0_9 a0_10 a0_11 a0_12 a1 = some r) : Tri Try.prog 152 [.c (.ptr (.arg 0) [] 0), .c (.sc (.int .u32 a1))] [(.arg 0, ⟨.box, 0, [.sc (.int .u32 a0_0), .sc (.int .i64 a0_1), .sc (.int .i64 a0_2), .sc (.int .i64 a0_3), .sc (.int .i64 a0_4), .sc (.int .i64 a0_5), .own 1 l0_6.length (encL c_i64 l0_6), .sc (.int .i64 a0_7), .sc (.int .i64 a0_8), .sc (.int .i64 a0_9), .sc (.int .i64 a0_10), .sc (.int .i64 a0_11), .sc (.bool a0_12)]⟩)] (fun o => o = ⟨.g [.sc (.int .i64 r.1), .ref (.res 0) [] 0 r.2.1.length, .ref (.res 1) [] 0 r.2.2.1.length, .sc (.int .i64 r.2.2.2.1), .sc (.int .i64 r.2.2.2.2.1)], [(.arg 0, ⟨.box, 0, [.sc (.int .u32 a0_0), .sc (.int .i64 a0_1), .sc (.int .i64 a0_2), .sc (.int .i64 a0_3), .sc (.int .i64 a0_4), .sc (.int .i64 a0_5), .own 1 l0_6.length (encL c_i64 l0_6), .sc (.int .i64 r.2.2.2.2.2.1), .sc (.int .i64 r.2.2.2.2.2.2.1), .sc (.int .i64 r.2.2.2.2.2.2.2.1), .sc (.int .i64 r.2.2.2.2.2.2.2.2.1), .sc (.int .i64 r.2.2.2.2.2.2.2.2.2.1), .sc (.bool r.2.2.2.2.2.2.2.2.2.2)]⟩), (.res 0, ⟨.lst, 3, encL c68 r.2.1⟩), (.res 1, ⟨.lst, 1, encL c_i64 r.2.2.1⟩)], [], []⟩) := by
  refine tri_of_body (ac := C152) (xs := r152) Try.func152 (show Try.f152.body = some (Try.f152.body.getD .skip) from rfl) k152 q152 (Nat.le_of_ble_eq_true rfl) ?_
  refine body_of fun K hKn hKr => ?_
  unfold spec_l4Ack.f at h
  unfold C152
  simp only [initT, Nat.reduceAdd]
  refine sr_k fun J1 hJ1 => ?_
  simp +decide only [Nat.reduceAdd, Nat.reduceMul, Int.reduceToNat, ak]
  refine gho_k (Weak.own (.tmp 4 0) (cs' := [.sc (.int .i64 0), .own 3 (([] : List S68).length) (encL c68 ([] : List S68)), .own 1 (([] : List Int).length) (encL c_i64 ([] : List Int)), .sc (.int .i64 0), .sc (.int .i64 0)]) rfl ⟨.inl rfl, .inr ⟨rfl, _, rfl⟩, .inr ⟨rfl, _, rfl⟩, .inl rfl, .inl rfl, trivial⟩) ?_
  simp +decide only [Nat.reduceAdd, Nat.reduceMul, Int.reduceToNat, ak]
  refine hJ1 _ ?_
  refine sr_k fun J2 hJ2 => ?_
  simp +decide only [Nat.reduceAdd, Nat.reduceMul, Int.reduceToNat, ak]
  refine hJ2 _ ?_
  refine seq_k fun J3 hJ3 => ?_
  refine sr_k fun J4 hJ4 => ?_
  simp +decide only [Nat.reduceAdd, Nat.reduceMul, Int.reduceToNat, ak]
  refine hJ4 _ ?_
  refine block_k fun B5 B5n B5x B5r B5j => ?_
  obtain ⟨y16, h17, h⟩ := of_bind h
  refine gh_k (wk [0, 1, 4, 5, 6] [pI (.arg 0) .box, pI (.tmp 4 0) .box]) ?_
  rw [e_loop]
  refine spec_l4Ack.l0_walk a1 a0_0 a0_1 a0_2 a0_3 a0_4 a0_5 l0_6 a0_7 a0_8 a0_9 a0_10 a0_11 a0_12 0 ([] : List S68) ([] : List Int) 0 0 (-1) a0_7 _ h17 _ ?_
  refine B5x _ ?_
  refine hJ3 _ ?_
  refine seq_k fun J18 hJ18 => ?_
  refine sr_k fun J19 hJ19 => ?_
  simp +decide only [Nat.reduceAdd, Nat.reduceMul, Int.reduceToNat, ak]
  refine hJ19 _ ?_
  refine cond_k (b := decide (y16 < 0)) rfl (fun c20 => ?_) (fun c20 => ?_)
  · replace c20 := of_decide_eq_true c20; rw [if_pos c20] at h
    refine sr_k fun J21 hJ21 => ?_
    simp +decide only [Nat.reduceAdd, Nat.reduceMul, Int.reduceToNat, ak]
    refine gho_k ((Weak.nmg' 36 1 (.tmp 36 21) 3 (encL c68 ([] : List S68)) rfl rfl rfl rfl).trans (Weak.nmg' 36 2 (.tmp 36 22) 1 (encL c_i64 ([] : List Int)) rfl rfl rfl rfl)) ?_
    have g22 : (encL c68 ([] : List S68)).length = 0 * 3 := by simp [encL_length c68_w]
    have g23 : (encL c_i64 ([] : List Int)).length = 0 * 1 := by simp [encL_length c_i64_w]
    simp +decide only [Nat.reduceAdd, Nat.reduceMul, Int.reduceToNat, ak, g22, g23]
    refine hJ21 _ ?_
    obtain rfl := Option.some.inj h
    refine hKr _ ⟨_, rfl, [⟨(.tmp 4 0), [1], none, .lst⟩, ⟨(.tmp 4 0), [2], none, .lst⟩], _, rfl, rfl, ?_⟩
    first | rfl | (simp only [reduceCtorEq, Nat.reduceEqDiff, ak, akF]; done) | (simp [reduceCtorEq, Nat.reduceEqDiff, ak, akF] <;> omega)
  · replace c20 := of_decide_eq_false c20; rw [if_neg c20] at h
    refine hJ18 _ ?_
    refine sr_k fun J24 hJ24 => ?_
    simp +decide only [Nat.reduceAdd, Nat.reduceMul, Int.reduceToNat, ak]
    refine gho_k ((Weak.nmg' 37 1 (.tmp 37 21) 3 (encL c68 ([] : List S68)) rfl rfl rfl rfl).trans (Weak.nmg' 37 2 (.tmp 37 22) 1 (encL c_i64 ([] : List Int)) rfl rfl rfl rfl)) ?_
    simp +decide only [Nat.reduceAdd, Nat.reduceMul, Int.reduceToNat, ak]
    refine gho_k (Weak.own (.tmp 7 0) (cs' := [.sc (.int .i64 0), .own 3 (([] : List S68).length) (encL c68 ([] : List S68)), .own 1 (([] : List Int).length) (encL c_i64 ([] : List Int)), .sc (.int .i64 0), .sc (.int .i64 0)]) rfl ⟨.inl rfl, .inr ⟨rfl, _, rfl⟩, .inr ⟨rfl, _, rfl⟩, .inl rfl, .inl rfl, trivial⟩) ?_
    have g25 : (encL c68 ([] : List S68)).length = 0 * 3 := by simp [encL_length c68_w]
    have g26 : (encL c_i64 ([] : List Int)).length = 0 * 1 := by simp [encL_length c_i64_w]
    simp +decide only [Nat.reduceAdd, Nat.reduceMul, Int.reduceToNat, ak, g25, g26]
    refine hJ24 _ ?_
    refine seq_k fun J27 hJ27 => ?_
    refine sr_k fun J28 hJ28 => ?_
    simp +decide only [Nat.reduceAdd, Nat.reduceMul, Int.reduceToNat, ak]
    refine hJ28 _ ?_
    refine block_k fun B29 B29n B29x B29r B29j => ?_
    obtain ⟨y72, h73, h⟩ := of_bind h
    refine gh_k (st' := ⟨[(0, .c (.ptr (.arg 0) [] 0)), (4, .c (.ptr (.tmp 4 0) [] 0)), (5, .c (.sc (.int .i64 y16))), (7, .c (.ptr (.tmp 7 0) [] 0)), (8, .c (.sc (.int .i64 a0_7)))], [(.arg 0, ⟨.box, 0, [.sc (.int .u32 a0_0), .sc (.int .i64 a0_1), .sc (.int .i64 a0_2), .sc (.int .i64 a0_3), .sc (.int .i64 a0_4), .sc (.int .i64 a0_5), .own 1 l0_6.length (encL c_i64 l0_6), .sc (.int .i64 a0_7), .sc (.int .i64 a0_8), .sc (.int .i64 a0_9), .sc (.int .i64 a0_10), .sc (.int .i64 a0_11), .sc (.bool a0_12)]⟩), (.tmp 4 0, ⟨.box, 0, [.sc (.int .i64 0), .own 3 (([] : List S68).length) (encL c68 ([] : List S68)), .own 1 (([] : List Int).length) (encL c_i64 ([] : List Int)), .sc (.int .i64 0), .sc (.int .i64 0)]⟩), (.tmp 7 0, ⟨.box, 0, [.sc (.int .i64 0), .own 3 (([] : List S68).length) (encL c68 ([] : List S68)), .own 1 (([] : List Int).length) (encL c_i64 ([] : List Int)), .sc (.int .i64 0), .sc (.int .i64 0)]⟩)], [], []⟩) (wk [0, 4, 5, 7, 8] [pI (.arg 0) .box, pI (.tmp 4 0) .box, pI (.tmp 7 0) .box] (h := by first | rfl | (simp +decide only [ak, akF]; done) | (simp +decide [ak, akF] <;> omega))) ?_
    rw [e_loop]
    refine spec_l4Ack.l1_walk y16 a0_0 a0_1 a0_2 a0_3 a0_4 a0_5 l0_6 a0_7 a0_8 a0_9 a0_10 a0_11 a0_12 0 ([] : List S68) ([] : List Int) 0 0 0 ([] : List S68) 0 0 a0_7 ([] : List Int) _ h73 _ ?_
    refine B29x _ ?_
    refine hJ27 _ ?_
    refine sr_k fun J74 hJ74 => ?_
    simp +decide only [Nat.reduceAdd, Nat.reduceMul, Int.reduceToNat, ak]
    refine hJ74 _ ?_
    refine sr_k fun J75 hJ75 => ?_
    simp +decide only [Nat.reduceAdd, Nat.reduceMul, Int.reduceToNat, ak]
    refine hJ75 _ ?_
    obtain ⟨j76, h77, hn⟩ := of_bind h
    refine seq_j (fun st => st = ⟨[(4, .c (.ptr (.tmp 4 0) [] 0)), (7, .c (.ptr (.tmp 7 0) [] 0))], [(.arg 0, ⟨.box, 0, [.sc (.int .u32 a0_0), .sc (.int .i64 a0_1), .sc (.int .i64 a0_2), .sc (.int .i64 a0_3), .sc (.int .i64 a0_4), .sc (.int .i64 a0_5), .own 1 l0_6.length (encL c_i64 l0_6), .sc (.int .i64 y16), .sc (.int .i64 j76.1), .sc (.int .i64 j76.2.1), .sc (.int .i64 j76.2.2.1), .sc (.int .i64 j76.2.2.2.1), .sc (.bool j76.2.2.2.2.1)]⟩), (.tmp 4 0, ⟨.box, 0, [.sc (.int .i64 0), .own 3 (([] : List S68).length) (encL c68 ([] : List S68)), .own 1 (([] : List Int).length) (encL c_i64 ([] : List Int)), .sc (.int .i64 0), .sc (.int .i64 0)]⟩), (.tmp 7 0, ⟨.box, 0, [.sc (.int .i64 0), .own 3 j76.2.2.2.2.2.1.length (encL c68 j76.2.2.2.2.2.1), .own 1 y72.length (encL c_i64 y72), .sc (.int .i64 0), .sc (.int .i64 j76.2.2.2.2.2.2)]⟩)], [], []⟩) (fun J78 hJ78 => ?_) ?_
    · replace h := h77; clear hn
      refine ga_k fun G79 G79n G79r G79x => ?_
      refine sr_k fun J80 hJ80 => ?_
      simp +decide only [Nat.reduceAdd, Nat.reduceMul, Int.reduceToNat, ak]
      refine hJ80 _ ?_
      refine cond_k (b := a0_12) rfl (fun c81 => ?_) (fun c81 => ?_)
      · rw [if_pos c81] at h
        refine sr_k fun J82 hJ82 => ?_
        simp +decide only [Nat.reduceAdd, Nat.reduceMul, Int.reduceToNat, ak]
        refine hJ82 _ ?_
        refine sr_k fun J83 hJ83 => ?_
        simp +decide only [Nat.reduceAdd, Nat.reduceMul, Int.reduceToNat, ak]
        refine hJ83 _ ?_
        refine sr_k fun J84 hJ84 => ?_
        simp +decide only [Nat.reduceAdd, Nat.reduceMul, Int.reduceToNat, ak]
        refine hJ84 _ ?_
        refine sr_k fun J85 hJ85 => ?_
        simp +decide only [Nat.reduceAdd, Nat.reduceMul, Int.reduceToNat, ak]
        obtain ⟨t86, h87, h⟩ := of_bind h
        refine call_m [(.arg 0, ⟨(.arg 0), [], none, .box⟩)] (s0 := [(.arg 0, ⟨.box, 0, [.sc (.int .u32 a0_0), .sc (.int .i64 a0_1), .sc (.int .i64 a0_2), .sc (.int .i64 a0_3), .sc (.int .i64 a0_4), .sc (.int .i64 a0_5), .own 1 l0_6.length (encL c_i64 l0_6), .sc (.int .i64 y16), .sc (.int .i64 a0_8), .sc (.int .i64 a0_9), .sc (.int .i64 a0_10), .sc (.int .i64 0), .sc (.bool false)]⟩)]) (by intro t ht; cases ht; decide) rfl rfl (by first | rfl | simp only [reduceCtorEq, Nat.reduceEqDiff, ak, akF, g25, g26]) (spec_l4Again.tri a0_0 a0_1 a0_2 a0_3 a0_4 a0_5 l0_6 y16 a0_8 a0_9 a0_10 0 false _ h87) (by first | rfl | simp only [reduceCtorEq, Nat.reduceEqDiff, ak, akF]) (by simp [bkOk2, memK]) (fun hl87 => ?_)
        refine call_st (s4 := [(.arg 0, ⟨.box, 0, [.sc (.int .u32 a0_0), .sc (.int .i64 a0_1), .sc (.int .i64 a0_2), .sc (.int .i64 a0_3), .sc (.int .i64 a0_4), .sc (.int .i64 a0_5), .own 1 l0_6.length (encL c_i64 l0_6), .sc (.int .i64 y16), .sc (.int .i64 a0_8), .sc (.int .i64 a0_9), .sc (.int .i64 a0_10), .sc (.int .i64 0), .sc (.bool false)]⟩), (.tmp 4 0, ⟨.box, 0, [.sc (.int .i64 0), .own 3 (([] : List S68).length) (encL c68 ([] : List S68)), .own 1 (([] : List Int).length) (encL c_i64 ([] : List Int)), .sc (.int .i64 0), .sc (.int .i64 0)]⟩), (.tmp 7 0, ⟨.box, 0, [.sc (.int .i64 0), .own 3 (([] : List S68).length) (encL c68 ([] : List S68)), .own 1 y72.length (encL c_i64 y72), .sc (.int .i64 0), .sc (.int .i64 1)]⟩), (.tmp 81 0, ⟨.lst, 3, encL c68 t86⟩)]) (m1' := []) (m2' := []) (v' := .c (.ref (.tmp 81 0) [] 0 t86.length)) (Sto.mapN_killNil _ _) (mrgL_whole (new' := [.sc (.int .u32 a0_0), .sc (.int .i64 a0_1), .sc (.int .i64 a0_2), .sc (.int .i64 a0_3), .sc (.int .i64 a0_4), .sc (.int .i64 a0_5), .own 1 l0_6.length (encL c_i64 l0_6), .sc (.int .i64 y16), .sc (.int .i64 a0_8), .sc (.int .i64 a0_9), .sc (.int .i64 a0_10), .sc (.int .i64 0), .sc (.bool false)]) (mrgL_nil' _ _ _) rfl (by rfl) (.inl ⟨rfl, by first | rfl | simp only [reduceCtorEq, Nat.reduceEqDiff, ak, akF, Nat.zero_add, List.append_nil]⟩)) (by rfl) (mapT_killNil _ _) (by rfl) (by rfl) (by first | rfl | simp only [reduceCtorEq, Nat.reduceEqDiff, ak, akF, Nat.zero_add, List.append_nil]) ?_
        have g89 : (encL c68 t86).length = t86.length * 3 := by simp [encL_length c68_w]
        simp +decide only [Nat.reduceAdd, Nat.reduceMul, Int.reduceToNat, ak, g89]
        refine hJ85 _ ?_
        refine reg_k ?_
        simp +decide only [Nat.reduceAdd, Nat.reduceMul, Int.reduceToNat, ak]
        obtain ⟨t90, h91, h⟩ := of_bind h
        refine call_m [(.arg 0, ⟨(.arg 0), [], none, .box⟩)] (s0 := [(.arg 0, ⟨.box, 0, [.sc (.int .u32 a0_0), .sc (.int .i64 a0_1), .sc (.int .i64 a0_2), .sc (.int .i64 a0_3), .sc (.int .i64 a0_4), .sc (.int .i64 a0_5), .own 1 l0_6.length (encL c_i64 l0_6), .sc (.int .i64 y16), .sc (.int .i64 a0_8), .sc (.int .i64 a0_9), .sc (.int .i64 a0_10), .sc (.int .i64 0), .sc (.bool false)]⟩)]) (by intro t ht; cases ht; decide) rfl rfl (by first | rfl | simp only [reduceCtorEq, Nat.reduceEqDiff, ak, akF, g25, g26, g89]) (spec_l4Clock.tri a0_0 a0_1 a0_2 a0_3 a0_4 a0_5 l0_6 y16 a0_8 a0_9 a0_10 0 false _ h91) (by first | rfl | simp only [reduceCtorEq, Nat.reduceEqDiff, ak, akF]) (by simp [bkOk2, memK]) (fun hl91 => ?_)
        refine call_st (s4 := [(.arg 0, ⟨.box, 0, [.sc (.int .u32 a0_0), .sc (.int .i64 a0_1), .sc (.int .i64 a0_2), .sc (.int .i64 a0_3), .sc (.int .i64 a0_4), .sc (.int .i64 a0_5), .own 1 l0_6.length (encL c_i64 l0_6), .sc (.int .i64 y16), .sc (.int .i64 t90.1), .sc (.int .i64 t90.2.1), .sc (.int .i64 t90.2.2), .sc (.int .i64 0), .sc (.bool false)]⟩), (.tmp 4 0, ⟨.box, 0, [.sc (.int .i64 0), .own 3 (([] : List S68).length) (encL c68 ([] : List S68)), .own 1 (([] : List Int).length) (encL c_i64 ([] : List Int)), .sc (.int .i64 0), .sc (.int .i64 0)]⟩), (.tmp 7 0, ⟨.box, 0, [.sc (.int .i64 0), .own 3 t86.length (encL c68 t86), .own 1 y72.length (encL c_i64 y72), .sc (.int .i64 0), .sc (.int .i64 1)]⟩)]) (m1' := []) (m2' := []) (v' := .tup []) (Sto.mapN_killNil _ _) (mrgL_whole (new' := [.sc (.int .u32 a0_0), .sc (.int .i64 a0_1), .sc (.int .i64 a0_2), .sc (.int .i64 a0_3), .sc (.int .i64 a0_4), .sc (.int .i64 a0_5), .own 1 l0_6.length (encL c_i64 l0_6), .sc (.int .i64 y16), .sc (.int .i64 t90.1), .sc (.int .i64 t90.2.1), .sc (.int .i64 t90.2.2), .sc (.int .i64 0), .sc (.bool false)]) (mrgL_nil' _ _ _) rfl (by rfl) (.inl ⟨rfl, by first | rfl | simp only [reduceCtorEq, Nat.reduceEqDiff, ak, akF, Nat.zero_add, List.append_nil]⟩)) (by rfl) (mapT_killNil _ _) (by rfl) (by rfl) (by first | rfl | simp only [reduceCtorEq, Nat.reduceEqDiff, ak, akF, Nat.zero_add, List.append_nil]) ?_
        simp +decide only [Nat.reduceAdd, Nat.reduceMul, Int.reduceToNat, ak]
        obtain rfl := Option.some.inj h
        refine G79n _ _ (wk [4, 7] [pI (.arg 0) .box, pI (.tmp 4 0) .box, pI (.tmp 7 0) .box]) (hJ78 _ rfl)
      · rw [if_neg (Bool.eq_false_iff.1 c81)] at h
        refine sr_k fun J93 hJ93 => ?_
        simp +decide only [Nat.reduceAdd, Nat.reduceMul, Int.reduceToNat, ak]
        refine hJ93 _ ?_
        refine cond_k (b := decide (y16 > a0_7)) rfl (fun c94 => ?_) (fun c94 => ?_)
        · replace c94 := of_decide_eq_true c94; rw [if_pos c94] at h
          refine reg_k ?_
          simp +decide only [Nat.reduceAdd, Nat.reduceMul, Int.reduceToNat, ak]
          obtain ⟨t95, h96, h⟩ := of_bind h
          refine call_m [(.arg 0, ⟨(.arg 0), [], none, .box⟩)] (s0 := [(.arg 0, ⟨.box, 0, [.sc (.int .u32 a0_0), .sc (.int .i64 a0_1), .sc (.int .i64 a0_2), .sc (.int .i64 a0_3), .sc (.int .i64 a0_4), .sc (.int .i64 a0_5), .own 1 l0_6.length (encL c_i64 l0_6), .sc (.int .i64 y16), .sc (.int .i64 a0_8), .sc (.int .i64 a0_9), .sc (.int .i64 a0_10), .sc (.int .i64 a0_11), .sc (.bool a0_12)]⟩)]) (by intro t ht; cases ht; decide) rfl rfl (by first | rfl | simp only [reduceCtorEq, Nat.reduceEqDiff, ak, akF, g25, g26]) (spec_l4Clock.tri a0_0 a0_1 a0_2 a0_3 a0_4 a0_5 l0_6 y16 a0_8 a0_9 a0_10 a0_11 a0_12 _ h96) (by first | rfl | simp only [reduceCtorEq, Nat.reduceEqDiff, ak, akF]) (by simp [bkOk2, memK]) (fun hl96 => ?_)
          refine call_st (s4 := [(.arg 0, ⟨.box, 0, [.sc (.int .u32 a0_0), .sc (.int .i64 a0_1), .sc (.int .i64 a0_2), .sc (.int .i64 a0_3), .sc (.int .i64 a0_4), .sc (.int .i64 a0_5), .own 1 l0_6.length (encL c_i64 l0_6), .sc (.int .i64 y16), .sc (.int .i64 t95.1), .sc (.int .i64 t95.2.1), .sc (.int .i64 t95.2.2), .sc (.int .i64 a0_11), .sc (.bool a0_12)]⟩), (.tmp 4 0, ⟨.box, 0, [.sc (.int .i64 0), .own 3 (([] : List S68).length) (encL c68 ([] : List S68)), .own 1 (([] : List Int).length) (encL c_i64 ([] : List Int)), .sc (.int .i64 0), .sc (.int .i64 0)]⟩), (.tmp 7 0, ⟨.box, 0, [.sc (.int .i64 0), .own 3 (([] : List S68).length) (encL c68 ([] : List S68)), .own 1 y72.length (encL c_i64 y72), .sc (.int .i64 0), .sc (.int .i64 0)]⟩)]) (m1' := []) (m2' := []) (v' := .tup []) (Sto.mapN_killNil _ _) (mrgL_whole (new' := [.sc (.int .u32 a0_0), .sc (.int .i64 a0_1), .sc (.int .i64 a0_2), .sc (.int .i64 a0_3), .sc (.int .i64 a0_4), .sc (.int .i64 a0_5), .own 1 l0_6.length (encL c_i64 l0_6), .sc (.int .i64 y16), .sc (.int .i64 t95.1), .sc (.int .i64 t95.2.1), .sc (.int .i64 t95.2.2), .sc (.int .i64 a0_11), .sc (.bool a0_12)]) (mrgL_nil' _ _ _) rfl (by rfl) (.inl ⟨rfl, by first | rfl | simp only [reduceCtorEq, Nat.reduceEqDiff, ak, akF, Nat.zero_add, List.append_nil]⟩)) (by rfl) (mapT_killNil _ _) (by rfl) (by rfl) (by first | rfl | simp only [reduceCtorEq, Nat.reduceEqDiff, ak, akF, Nat.zero_add, List.append_nil]) ?_
          simp +decide only [Nat.reduceAdd, Nat.reduceMul, Int.reduceToNat, ak]
          obtain rfl := Option.some.inj h
          refine G79n _ _ (wk [4, 7] [pI (.arg 0) .box, pI (.tmp 4 0) .box, pI (.tmp 7 0) .box]) (hJ78 _ rfl)
        · replace c94 := of_decide_eq_false c94; rw [if_neg c94] at h
          obtain rfl := Option.some.inj h
          refine G79n _ _ (wk [4, 7] [pI (.arg 0) .box, pI (.tmp 4 0) .box, pI (.tmp 7 0) .box]) (hJ78 _ rfl)
    · replace h := hn; clear hn h77
      rintro _ rfl
      refine sr_k fun J98 hJ98 => ?_
      simp +decide only [Nat.reduceAdd, Nat.reduceMul, Int.reduceToNat, ak]
      refine hJ98 _ ?_
      obtain rfl := Option.some.inj h
      refine hKr _ ⟨_, rfl, [⟨(.tmp 7 0), [1], none, .lst⟩, ⟨(.tmp 7 0), [2], none, .lst⟩], _, rfl, rfl, ?_⟩
      first | rfl | (simp only [reduceCtorEq, Nat.reduceEqDiff, ak, akF]; done) | (simp [reduceCtorEq, Nat.reduceEqDiff, ak, akF] <;> omega)
/-! ### spec.l4Tick: function 153 -/
def C153 : AC := .seq (.reg [.op none (.alloc 2 [.int .i64 0, .slice none 0 0, .slice none 0 0, .int .i64 0, .int .i64 0]), .gh, .keep [0, 2]]) (.seq (.reg [.op none (.build 4 [.int .i64 0, .slice none 0 0, .slice none 0 0, .int .i64 0, .int .i64 0] []), .gh, .op none (.alloc 3 [.int .i64 0, .slice none 0 0, .slice none 0 0, .int .i64 0, .int .i64 0]), .gh, .op none (.store 5 (.tmp 3) (.tmp 4)), .keep [0, 2, 3]]) (.seq (.seq (.reg [.op none (.mv 5 (.tmp 0)), .op none (.nilc 6 (.tmp 5)), .op none (.faddr 7 12 (.tmp 6)), .op none (.load 8 false 1 (.tmp 7)), .keep [0, 2, 3, 8]]) (.cond (.tmp 8) (.seq (.reg [.op none (.mv 9 (.tmp 0)), .op none (.mv 10 (.tmp 0)), .op none (.nilc 11 (.tmp 10)), .op none (.faddr 12 11 (.tmp 11)), .op none (.load 13 false 1 (.tmp 12)), .op none (.bin 14 .sub (.tmp 13) (.const (.int .i64 1))), .op none (.nilc 15 (.tmp 9)), .op none (.faddr 16 11 (.tmp 15)), .op none (.store 1 (.tmp 16) (.tmp 14)), .keep [0, 2, 3]]) (.seq (.ga (.seq (.reg [.op none (.mv 17 (.tmp 0)), .op none (.nilc 18 (.tmp 17)), .op none (.faddr 19 11 (.tmp 18)), .op none (.load 20 false 1 (.tmp 19)), .op none (.bin 21 .eql (.tmp 20) (.const (.int .i64 0))), .keep [0, 2, 3, 21]]) (.cond (.tmp 21) (.seq (.regD (.first (.op none (.mv 22 (.tmp 0))) (.first (.op none (.nilc 23 (.tmp 22))) (.first (.op none (.faddr 24 0 (.tmp 23))) (.first (.op none (.faddr 25 0 (.tmp 24))) (.first (.op none (.load 26 false 1 (.tmp 25))) (.first (.op none (.mv 27 (.tmp 0))) (.first (.op none (.nilc 28 (.tmp 27))) (.first (.op none (.faddr 29 7 (.tmp 28))) (.first (.op none (.load 30 false 1 (.tmp 29))) (.first (.op none (.conv 31 .u32 (.tmp 30))) (.first (.op none (.bin 32 .add (.tmp 26) (.tmp 31))) (.first (.op none (.build 33 [.int .i64 0, .int .u32 0, .int .i64 0] [(0, 1, .const (.int .i64 3)), (1, 1, .tmp 32)])) (.alt (.op none (.bslice 34 3 [.int .i64 0, .int .u32 0, .int .i64 0] 1 [(0, .tmp 33)])) none (.first (.op none (.faddr 35 1 (.tmp 3))) (.alt (.op none (.store 1 (.tmp 35) (.tmp 34))) none (.done) (.stop))) (.stop)))))))))))))) [0, 2, 3]) (.reg [.op none (.mv 36 (.tmp 0)), .op none (.mv 37 (.tmp 0)), .op none (.nilc 38 (.tmp 37)), .op none (.faddr 39 0 (.tmp 38)), .op none (.faddr 40 5 (.tmp 39)), .op none (.load 41 false 1 (.tmp 40)), .op none (.nilc 42 (.tmp 36)), .op none (.faddr 43 11 (.tmp 42)), .op none (.store 1 (.tmp 43) (.tmp 41)), .keep [2, 3]])) (.skip)))) (.seq (.reg [.op none (.load 44 true 5 (.tmp 3)), .op none (.store 5 (.tmp 2) (.tmp 44)), .keep [2]]) (.ret)))) (.skip))) (.seq (.seq (.reg [.op none (.mv 45 (.tmp 0)), .op none (.nilc 46 (.tmp 45)), .op none (.faddr 47 8 (.tmp 46)), .op none (.load 48 false 1 (.tmp 47)), .op none (.bin 49 .eql (.tmp 48) (.const (.int .i64 0))), .keep [0, 2, 3, 49]]) (.cond (.tmp 49) (.seq (.reg [.op none (.load 50 true 5 (.tmp 3)), .op none (.store 5 (.tmp 2) (.tmp 50)), .keep [2]]) (.ret)) (.skip))) (.seq (.reg [.op none (.mv 51 (.tmp 0)), .op none (.mv 52 (.tmp 0)), .op none (.nilc 53 (.tmp 52)), .op none (.faddr 54 8 (.tmp 53)), .op none (.load 55 false 1 (.tmp 54)), .op none (.bin 56 .sub (.tmp 55) (.const (.int .i64 1))), .op none (.nilc 57 (.tmp 51)), .op none (.faddr 58 8 (.tmp 57)), .op none (.store 1 (.tmp 58) (.tmp 56)), .keep [0, 2, 3]]) (.seq (.seq (.reg [.op none (.mv 59 (.tmp 0)), .op none (.nilc 60 (.tmp 59)), .op none (.faddr 61 8 (.tmp 60)), .op none (.load 62 false 1 (.tmp 61)), .op none (.bin 63 .gtr (.tmp 62) (.const (.int .i64 0))), .keep [0, 2, 3, 63]]) (.cond (.tmp 63) (.seq (.reg [.op none (.load 64 true 5 (.tmp 3)), .op none (.store 5 (.tmp 2) (.tmp 64)), .keep [2]]) (.ret)) (.skip))) (.seq (.reg [.op none (.mv 65 (.tmp 0)), .op none (.mv 66 (.tmp 0)), .op none (.nilc 67 (.tmp 66)), .op none (.faddr 68 10 (.tmp 67)), .op none (.load 69 false 1 (.tmp 68)), .op none (.bin 70 .add (.tmp 69) (.const (.int .i64 1))), .op none (.nilc 71 (.tmp 65)), .op none (.faddr 72 10 (.tmp 71)), .op none (.store 1 (.tmp 72) (.tmp 70)), .keep [0, 2, 3]]) (.seq (.seq (.regD (.first (.op none (.mv 73 (.tmp 0))) (.first (.op none (.nilc 74 (.tmp 73))) (.first (.op none (.faddr 75 10 (.tmp 74))) (.first (.op none (.load 76 false 1 (.tmp 75))) (.first (.op none (.mv 77 (.tmp 0))) (.first (.op none (.nilc 78 (.tmp 77))) (.first (.op none (.faddr 79 0 (.tmp 78))) (.first (.op none (.faddr 80 4 (.tmp 79))) (.first (.op none (.load 81 false 1 (.tmp 80))) (.first (.op none (.bin 82 .eql (.tmp 76) (.tmp 81))) (.done))))))))))) [0, 2, 3, 82]) (.cond (.tmp 82) (.seq (.reg [.op none (.mv 83 (.tmp 0)), .op none (.nilc 84 (.tmp 83)), .op none (.faddr 85 12 (.tmp 84)), .op none (.store 1 (.tmp 85) (.const (.bool true))), .keep [0, 2, 3]]) (.seq (.reg [.op none (.mv 86 (.tmp 0)), .op none (.mv 87 (.tmp 0)), .op none (.nilc 88 (.tmp 87)), .op none (.faddr 89 0 (.tmp 88)), .op none (.faddr 90 5 (.tmp 89)), .op none (.load 91 false 1 (.tmp 90)), .op none (.nilc 92 (.tmp 86)), .op none (.faddr 93 11 (.tmp 92)), .op none (.store 1 (.tmp 93) (.tmp 91)), .keep [2, 3]]) (.seq (.reg [.op none (.faddr 94 3 (.tmp 3)), .op none (.store 1 (.tmp 94) (.const (.int .i64 1))), .keep [2, 3]]) (.seq (.reg [.op none (.load 95 true 5 (.tmp 3)), .op none (.store 5 (.tmp 2) (.tmp 95)), .keep [2]]) (.ret))))) (.skip))) (.seq (.reg [.op none (.mv 96 (.tmp 0)), .op none (.mv 97 (.tmp 0)), .op none (.nilc 98 (.tmp 97)), .op none (.faddr 99 9 (.tmp 98)), .op none (.load 100 false 1 (.tmp 99)), .op none (.bin 101 .mul (.const (.int .i64 2)) (.tmp 100)), .op none (.nilc 102 (.tmp 96)), .op none (.faddr 103 9 (.tmp 102)), .op none (.store 1 (.tmp 103) (.tmp 101)), .keep [0, 2, 3]]) (.seq (.ga (.seq (.regD (.first (.op none (.mv 104 (.tmp 0))) (.first (.op none (.nilc 105 (.tmp 104))) (.first (.op none (.faddr 106 9 (.tmp 105))) (.first (.op none (.load 107 false 1 (.tmp 106))) (.first (.op none (.mv 108 (.tmp 0))) (.first (.op none (.nilc 109 (.tmp 108))) (.first (.op none (.faddr 110 0 (.tmp 109))) (.first (.op none (.faddr 111 3 (.tmp 110))) (.first (.op none (.load 112 false 1 (.tmp 111))) (.first (.op none (.bin 113 .gtr (.tmp 107) (.tmp 112))) (.done))))))))))) [0, 2, 3, 113]) (.cond (.tmp 113) (.reg [.op none (.mv 114 (.tmp 0)), .op none (.mv 115 (.tmp 0)), .op none (.nilc 116 (.tmp 115)), .op none (.faddr 117 0 (.tmp 116)), .op none (.faddr 118 3 (.tmp 117)), .op none (.load 119 false 1 (.tmp 118)), .op none (.nilc 120 (.tmp 114)), .op none (.faddr 121 9 (.tmp 120)), .op none (.store 1 (.tmp 121) (.tmp 119)), .keep [0, 2, 3]]) (.skip)))) (.seq (.reg [.op none (.mv 122 (.tmp 0)), .op none (.mv 123 (.tmp 0)), .op none (.nilc 124 (.tmp 123)), .op none (.faddr 125 9 (.tmp 124)), .op none (.load 126 false 1 (.tmp 125)), .op none (.nilc 127 (.tmp 122)), .op none (.faddr 128 8 (.tmp 127)), .op none (.store 1 (.tmp 128) (.tmp 126)), .keep [0, 2, 3]]) (.seq (.reg [.op none (.mv 129 (.tmp 0)), .call none (some 130) 162 [.tmp 129], .op none (.faddr 131 1 (.tmp 3)), .op none (.store 1 (.tmp 131) (.tmp 130)), .keep [2, 3]]) (.seq (.reg [.op none (.load 132 true 5 (.tmp 3)), .op none (.store 5 (.tmp 2) (.tmp 132)), .keep [2]]) (.ret)))))))))))))
def r153 : List RV := [.cell 2 true 5]
theorem k153 : compC Try.prog 133 C153 (Try.f153.body.getD .skip) = some C153.erase := by kernel_rfl
theorem q153 : rvsOf Try.prog Try.f153.results.toList = some r153 := by kernel_rfl
def spec_l4Tick.f (a0_0 : Int) (a0_1 : Int) (a0_2 : Int) (a0_3 : Int) (a0_4 : Int) (a0_5 : Int) (l0_6 : List Int) (a0_7 : Int) (a0_8 : Int) (a0_9 : Int) (a0_10 : Int) (a0_11 : Int) (a0_12 : Bool) : Option (Int × (List S68) × (List Int) × Int × Int × Int × Int × Int × Int × Bool) := (if a0_12 = true then ((if IntKind.i64.wrap (a0_11 - 1) = 0 then (some (a0_5, ([(⟨3, IntKind.u32.wrap (a0_0 + (IntKind.u32.wrap a0_7)), 0⟩ : S68)] : List S68))) else (some (IntKind.i64.wrap (a0_11 - 1), ([] : List S68)))) >>= fun (j9 : Int × (List S68)) => (some (0, j9.2, ([] : List Int), 0, 0, a0_8, a0_9, a0_10, j9.1, a0_12))) else (if a0_8 = 0 then (some (0, ([] : List S68), ([] : List Int), 0, 0, a0_8, a0_9, a0_10, a0_11, a0_12)) else (if IntKind.i64.wrap (a0_8 - 1) > 0 then (some (0, ([] : List S68), ([] : List Int), 0, 0, IntKind.i64.wrap (a0_8 - 1), a0_9, a0_10, a0_11, a0_12)) else (if IntKind.i64.wrap (a0_10 + 1) = a0_4 then (some (0, ([] : List S68), ([] : List Int), 1, 0, IntKind.i64.wrap (a0_8 - 1), a0_9, IntKind.i64.wrap (a0_10 + 1), a0_5, true)) else ((if IntKind.i64.wrap (2 * a0_9) > a0_3 then (some a0_3) else (some (IntKind.i64.wrap (2 * a0_9)))) >>= fun (j45 : Int) => (spec_l4Again.f a0_0 a0_1 a0_2 a0_3 a0_4 a0_5 l0_6 a0_7 j45 j45 (IntKind.i64.wrap (a0_10 + 1)) a0_11 a0_12 >>= fun t53 => (some (0, t53, ([] : List Int), 0, 0, j45, j45, IntKind.i64.wrap (a0_10 + 1), a0_11, a0_12))))))))
theorem spec_l4Tick.tri (a0_0 : Int) (a0_1 : Int) (a0_2 : Int) (a0_3 : Int) (a0_4 : Int) (a0_5 : Int) (l0_6 : List Int) (a0_7 : Int) (a0_8 : Int) (a0_9 : Int) (a0_10 : Int) (a0_11 : Int) (a0_12 : Bool) (r : Int × (List S68) × (List Int) × Int × Int × Int × Int × Int × Int × Bool) (h : spec_l4Tick.f a0_0 a0_1 a0_2 a0_3 a0_4 a0_5 l0_6 a0_7 a0_8 a0_9 a0_10 a0_11 a0_12 = some r) : Tri Try.prog 153 [.c (.ptr (.arg 0) [] 0)] [(.arg 0, ⟨.box, 0, [.sc (.int .u32 a0_0), .sc (.int .i64 a0_1), .sc (.int .i64 a0_2), .sc (.int .i64 a0_3), .sc (.int .i64 a0_4), .sc (.int .i64 a0_5), .own 1 l0_6.length (encL c_i64 l0_6), .sc (.int .i64 a0_7), .sc (.int .i64 a0_8), .sc (.int .i64 a0_9), .sc (.int .i64 a0_10), .sc (.int .i64 a0_11), .sc (.bool a0_12)]⟩)] (fun o => o = ⟨.g [.sc (.int .i64 r.1), .ref (.res 0) [] 0 r.2.1.length, .ref (.res 1) [] 0 r.2.2.1.length, .sc (.int .i64 r.2.2.2.1), .sc (.int .i64 r.2.2.2.2.1)], [(.arg 0, ⟨.box, 0, [.sc (.int .u32 a0_0), .sc (.int .i64 a0_1), .sc (.int .i64 a0_2), .sc (.int .i64 a0_3), .sc (.int .i64 a0_4), .sc (.int .i64 a0_5), .own 1 l0_6.length (encL c_i64 l0_6), .sc (.int .i64 a0_7), .sc (.int .i64 r.2.2.2.2.2.1), .sc (.int .i64 r.2.2.2.2.2.2.1), .sc (.int .i64 r.2.2.2.2.2.2.2.1), .sc (.int .i64 r.2.2.2.2.2.2.2.2.1), .sc (.bool r.2.2.2.2.2.2.2.2.2)]⟩), (.res 0, ⟨.lst, 3, encL c68 r.2.1⟩), (.res 1, ⟨.lst, 1, encL c_i64 r.2.2.1⟩)], [], []⟩) := by
  refine tri_of_body (ac := C153) (xs := r153) Try.func153 (show Try.f153.body = some (Try.f153.body.getD .skip) from rfl) k153 q153 (Nat.le_of_ble_eq_true rfl) ?_
  refine body_of fun K hKn hKr => ?_
  unfold spec_l4Tick.f at h
  unfold C153
  simp only [initT, Nat.reduceAdd]
  refine sr_k fun J1 hJ1 => ?_
  simp +decide only [Nat.reduceAdd, Nat.reduceMul, Int.reduceToNat, ak]
  refine gho_k (Weak.own (.tmp 2 0) (cs' := [.sc (.int .i64 0), .own 3 (([] : List S68).length) (encL c68 ([] : List S68)), .own 1 (([] : List Int).length) (encL c_i64 ([] : List Int)), .sc (.int .i64 0), .sc (.int .i64 0)]) rfl ⟨.inl rfl, .inr ⟨rfl, _, rfl⟩, .inr ⟨rfl, _, rfl⟩, .inl rfl, .inl rfl, trivial⟩) ?_
  simp +decide only [Nat.reduceAdd, Nat.reduceMul, Int.reduceToNat, ak]
  refine hJ1 _ ?_
  refine sr_k fun J2 hJ2 => ?_
  simp +decide only [Nat.reduceAdd, Nat.reduceMul, Int.reduceToNat, ak]
  refine gho_k ((Weak.nmg' 4 1 (.tmp 4 21) 3 (encL c68 ([] : List S68)) rfl rfl rfl rfl).trans (Weak.nmg' 4 2 (.tmp 4 22) 1 (encL c_i64 ([] : List Int)) rfl rfl rfl rfl)) ?_
  simp +decide only [Nat.reduceAdd, Nat.reduceMul, Int.reduceToNat, ak]
  refine gho_k (Weak.own (.tmp 3 0) (cs' := [.sc (.int .i64 0), .own 3 (([] : List S68).length) (encL c68 ([] : List S68)), .own 1 (([] : List Int).length) (encL c_i64 ([] : List Int)), .sc (.int .i64 0), .sc (.int .i64 0)]) rfl ⟨.inl rfl, .inr ⟨rfl, _, rfl⟩, .inr ⟨rfl, _, rfl⟩, .inl rfl, .inl rfl, trivial⟩) ?_
  have g3 : (encL c68 ([] : List S68)).length = 0 * 3 := by simp [encL_length c68_w]
  have g4 : (encL c_i64 ([] : List Int)).length = 0 * 1 := by simp [encL_length c_i64_w]
  simp +decide only [Nat.reduceAdd, Nat.reduceMul, Int.reduceToNat, ak, g3, g4]
  refine hJ2 _ ?_
  refine seq_k fun J5 hJ5 => ?_
  refine sr_k fun J6 hJ6 => ?_
  simp +decide only [Nat.reduceAdd, Nat.reduceMul, Int.reduceToNat, ak]
  refine hJ6 _ ?_
  refine cond_k (b := a0_12) rfl (fun c7 => ?_) (fun c7 => ?_)
  · rw [if_pos c7] at h
    refine sr_k fun J8 hJ8 => ?_
    simp +decide only [Nat.reduceAdd, Nat.reduceMul, Int.reduceToNat, ak]
    refine hJ8 _ ?_
    obtain ⟨j9, h10, hn⟩ := of_bind h
    refine seq_j (fun st => st = ⟨[(2, .c (.ptr (.tmp 2 0) [] 0)), (3, .c (.ptr (.tmp 3 0) [] 0))], [(.arg 0, ⟨.box, 0, [.sc (.int .u32 a0_0), .sc (.int .i64 a0_1), .sc (.int .i64 a0_2), .sc (.int .i64 a0_3), .sc (.int .i64 a0_4), .sc (.int .i64 a0_5), .own 1 l0_6.length (encL c_i64 l0_6), .sc (.int .i64 a0_7), .sc (.int .i64 a0_8), .sc (.int .i64 a0_9), .sc (.int .i64 a0_10), .sc (.int .i64 j9.1), .sc (.bool a0_12)]⟩), (.tmp 2 0, ⟨.box, 0, [.sc (.int .i64 0), .own 3 (([] : List S68).length) (encL c68 ([] : List S68)), .own 1 (([] : List Int).length) (encL c_i64 ([] : List Int)), .sc (.int .i64 0), .sc (.int .i64 0)]⟩), (.tmp 3 0, ⟨.box, 0, [.sc (.int .i64 0), .own 3 j9.2.length (encL c68 j9.2), .own 1 0 (encL c_i64 ([] : List Int)), .sc (.int .i64 0), .sc (.int .i64 0)]⟩)], [], []⟩) (fun J11 hJ11 => ?_) ?_
    · replace h := h10; clear hn
      refine ga_k fun G12 G12n G12r G12x => ?_
      refine sr_k fun J13 hJ13 => ?_
      simp +decide only [Nat.reduceAdd, Nat.reduceMul, Int.reduceToNat, ak]
      refine hJ13 _ ?_
      refine cond_k (b := decide (IntKind.i64.wrap (a0_11 - 1) = 0)) rfl (fun c14 => ?_) (fun c14 => ?_)
      · replace c14 := of_decide_eq_true c14; rw [if_pos c14] at h
        refine sd_k fun J15 hJ15 => ?_
        simp +decide only [Nat.reduceAdd, Nat.reduceMul, Int.reduceToNat, ak]
        refine alt_e ?_
        · have g21 : (List.replicate 1 ([.int .i64 0, .int .u32 0, .int .i64 0] : List Value)).flatten = [.int .i64 0, .int .u32 0, .int .i64 0] := rfl
          have g22 : (⟨.lst, 3, [.sc (.int .i64 3), .sc (.int .u32 (IntKind.u32.wrap (a0_0 + (IntKind.u32.wrap a0_7)))), .sc (.int .i64 0)]⟩ : Root) = ⟨.lst, 3, encL c68 ([(⟨3, IntKind.u32.wrap (a0_0 + (IntKind.u32.wrap a0_7)), 0⟩ : S68)] : List S68)⟩ := rfl
          have g23 : ([(⟨3, IntKind.u32.wrap (a0_0 + (IntKind.u32.wrap a0_7)), 0⟩ : S68)] : List S68).length = 1 := rfl
          simp +decide only [Nat.reduceAdd, Nat.reduceMul, Int.reduceToNat, ak, g21, g22, g23]
          refine alt_e ?_
          · have g25 : (encL c68 ([(⟨3, IntKind.u32.wrap (a0_0 + (IntKind.u32.wrap a0_7)), 0⟩ : S68)] : List S68)).length = 1 * 3 := by simp [encL_length c68_w]
            simp +decide only [Nat.reduceAdd, Nat.reduceMul, Int.reduceToNat, ak, g25]
            refine hJ15 _ ?_
            refine reg_k ?_
            simp +decide only [Nat.reduceAdd, Nat.reduceMul, Int.reduceToNat, ak]
            obtain rfl := Option.some.inj h
            refine G12n _ _ (wk [2, 3] [pI (.arg 0) .box, pI (.tmp 2 0) .box, pI (.tmp 3 0) .box] (h := by first | rfl | (simp +decide only [ak, akF]; done) | (simp +decide [ak, akF] <;> omega))) (hJ11 _ rfl)
      · replace c14 := of_decide_eq_false c14; rw [if_neg c14] at h
        obtain rfl := Option.some.inj h
        refine G12n _ _ (wk [2, 3] [pI (.arg 0) .box, pI (.tmp 2 0) .box, pI (.tmp 3 0) .box] (h := by first | rfl | (simp +decide only [ak, akF]; done) | (simp +decide [ak, akF] <;> omega))) (hJ11 _ rfl)
    · replace h := hn; clear hn h10
      rintro _ rfl
      refine sr_k fun J26 hJ26 => ?_
      simp +decide only [Nat.reduceAdd, Nat.reduceMul, Int.reduceToNat, ak]
      refine hJ26 _ ?_
      obtain rfl := Option.some.inj h
      refine hKr _ ⟨_, rfl, [⟨(.tmp 3 0), [1], none, .lst⟩, ⟨(.tmp 3 0), [2], none, .lst⟩], _, rfl, rfl, ?_⟩
      first | rfl | (simp only [reduceCtorEq, Nat.reduceEqDiff, ak, akF]; done) | (simp [reduceCtorEq, Nat.reduceEqDiff, ak, akF] <;> omega)
  · rw [if_neg (Bool.eq_false_iff.1 c7)] at h
    refine hJ5 _ ?_
    refine seq_k fun J27 hJ27 => ?_
    refine sr_k fun J28 hJ28 => ?_
    simp +decide only [Nat.reduceAdd, Nat.reduceMul, Int.reduceToNat, ak]
    refine hJ28 _ ?_
    refine cond_k (b := decide (a0_8 = 0)) rfl (fun c29 => ?_) (fun c29 => ?_)
    · replace c29 := of_decide_eq_true c29; rw [if_pos c29] at h
      refine sr_k fun J30 hJ30 => ?_
      simp +decide only [Nat.reduceAdd, Nat.reduceMul, Int.reduceToNat, ak]
      refine hJ30 _ ?_
      obtain rfl := Option.some.inj h
      refine hKr _ ⟨_, rfl, [⟨(.tmp 3 0), [1], none, .lst⟩, ⟨(.tmp 3 0), [2], none, .lst⟩], _, rfl, rfl, ?_⟩
      first | rfl | (simp only [reduceCtorEq, Nat.reduceEqDiff, ak, akF]; done) | (simp [reduceCtorEq, Nat.reduceEqDiff, ak, akF] <;> omega)
    · replace c29 := of_decide_eq_false c29; rw [if_neg c29] at h
      refine hJ27 _ ?_
      refine sr_k fun J31 hJ31 => ?_
      simp +decide only [Nat.reduceAdd, Nat.reduceMul, Int.reduceToNat, ak]
      refine hJ31 _ ?_
      refine seq_k fun J32 hJ32 => ?_
      refine sr_k fun J33 hJ33 => ?_
      simp +decide only [Nat.reduceAdd, Nat.reduceMul, Int.reduceToNat, ak]
      refine hJ33 _ ?_
      refine cond_k (b := decide (IntKind.i64.wrap (a0_8 - 1) > 0)) rfl (fun c34 => ?_) (fun c34 => ?_)
      · replace c34 := of_decide_eq_true c34; rw [if_pos c34] at h
        refine sr_k fun J35 hJ35 => ?_
        simp +decide only [Nat.reduceAdd, Nat.reduceMul, Int.reduceToNat, ak]
        refine hJ35 _ ?_
        obtain rfl := Option.some.inj h
        refine hKr _ ⟨_, rfl, [⟨(.tmp 3 0), [1], none, .lst⟩, ⟨(.tmp 3 0), [2], none, .lst⟩], _, rfl, rfl, ?_⟩
        first | rfl | (simp only [reduceCtorEq, Nat.reduceEqDiff, ak, akF]; done) | (simp [reduceCtorEq, Nat.reduceEqDiff, ak, akF] <;> omega)
      · replace c34 := of_decide_eq_false c34; rw [if_neg c34] at h
        refine hJ32 _ ?_
        refine sr_k fun J36 hJ36 => ?_
        simp +decide only [Nat.reduceAdd, Nat.reduceMul, Int.reduceToNat, ak]
        refine hJ36 _ ?_
        refine seq_k fun J37 hJ37 => ?_
        refine sd_k fun J38 hJ38 => ?_
        simp +decide only [Nat.reduceAdd, Nat.reduceMul, Int.reduceToNat, ak]
        refine hJ38 _ ?_
        refine cond_k (b := decide (IntKind.i64.wrap (a0_10 + 1) = a0_4)) rfl (fun c39 => ?_) (fun c39 => ?_)
        · replace c39 := of_decide_eq_true c39; rw [if_pos c39] at h
          refine sr_k fun J40 hJ40 => ?_
          simp +decide only [Nat.reduceAdd, Nat.reduceMul, Int.reduceToNat, ak]
          refine hJ40 _ ?_
          refine sr_k fun J41 hJ41 => ?_
          simp +decide only [Nat.reduceAdd, Nat.reduceMul, Int.reduceToNat, ak]
          refine hJ41 _ ?_
          refine sr_k fun J42 hJ42 => ?_
          simp +decide only [Nat.reduceAdd, Nat.reduceMul, Int.reduceToNat, ak]
          refine hJ42 _ ?_
          refine sr_k fun J43 hJ43 => ?_
          simp +decide only [Nat.reduceAdd, Nat.reduceMul, Int.reduceToNat, ak]
          refine hJ43 _ ?_
          obtain rfl := Option.some.inj h
          refine hKr _ ⟨_, rfl, [⟨(.tmp 3 0), [1], none, .lst⟩, ⟨(.tmp 3 0), [2], none, .lst⟩], _, rfl, rfl, ?_⟩
          first | rfl | (simp only [reduceCtorEq, Nat.reduceEqDiff, ak, akF]; done) | (simp [reduceCtorEq, Nat.reduceEqDiff, ak, akF] <;> omega)
        · replace c39 := of_decide_eq_false c39; rw [if_neg c39] at h
          refine hJ37 _ ?_
          refine sr_k fun J44 hJ44 => ?_
          simp +decide only [Nat.reduceAdd, Nat.reduceMul, Int.reduceToNat, ak]
          refine hJ44 _ ?_
          obtain ⟨j45, h46, hn⟩ := of_bind h
          refine seq_j (fun st => st = ⟨[(0, .c (.ptr (.arg 0) [] 0)), (2, .c (.ptr (.tmp 2 0) [] 0)), (3, .c (.ptr (.tmp 3 0) [] 0))], [(.arg 0, ⟨.box, 0, [.sc (.int .u32 a0_0), .sc (.int .i64 a0_1), .sc (.int .i64 a0_2), .sc (.int .i64 a0_3), .sc (.int .i64 a0_4), .sc (.int .i64 a0_5), .own 1 l0_6.length (encL c_i64 l0_6), .sc (.int .i64 a0_7), .sc (.int .i64 (IntKind.i64.wrap (a0_8 - 1))), .sc (.int .i64 j45), .sc (.int .i64 (IntKind.i64.wrap (a0_10 + 1))), .sc (.int .i64 a0_11), .sc (.bool a0_12)]⟩), (.tmp 2 0, ⟨.box, 0, [.sc (.int .i64 0), .own 3 (([] : List S68).length) (encL c68 ([] : List S68)), .own 1 (([] : List Int).length) (encL c_i64 ([] : List Int)), .sc (.int .i64 0), .sc (.int .i64 0)]⟩), (.tmp 3 0, ⟨.box, 0, [.sc (.int .i64 0), .own 3 0 (encL c68 ([] : List S68)), .own 1 0 (encL c_i64 ([] : List Int)), .sc (.int .i64 0), .sc (.int .i64 0)]⟩)], [], []⟩) (fun J47 hJ47 => ?_) ?_
          · replace h := h46; clear hn
            refine ga_k fun G48 G48n G48r G48x => ?_
            refine sd_k fun J49 hJ49 => ?_
            simp +decide only [Nat.reduceAdd, Nat.reduceMul, Int.reduceToNat, ak]
            refine hJ49 _ ?_
            refine cond_k (b := decide (IntKind.i64.wrap (2 * a0_9) > a0_3)) rfl (fun c50 => ?_) (fun c50 => ?_)
            · replace c50 := of_decide_eq_true c50; rw [if_pos c50] at h
              refine reg_k ?_
              simp +decide only [Nat.reduceAdd, Nat.reduceMul, Int.reduceToNat, ak]
              obtain rfl := Option.some.inj h
              refine G48n _ _ (wk [0, 2, 3] [pI (.arg 0) .box, pI (.tmp 2 0) .box, pI (.tmp 3 0) .box] (h := by first | rfl | (simp +decide only [ak, akF]; done) | (simp +decide [ak, akF] <;> omega))) (hJ47 _ rfl)
            · replace c50 := of_decide_eq_false c50; rw [if_neg c50] at h
              obtain rfl := Option.some.inj h
              refine G48n _ _ (wk [0, 2, 3] [pI (.arg 0) .box, pI (.tmp 2 0) .box, pI (.tmp 3 0) .box] (h := by first | rfl | (simp +decide only [ak, akF]; done) | (simp +decide [ak, akF] <;> omega))) (hJ47 _ rfl)
          · replace h := hn; clear hn h46
            rintro _ rfl
            refine sr_k fun J51 hJ51 => ?_
            simp +decide only [Nat.reduceAdd, Nat.reduceMul, Int.reduceToNat, ak]
            refine hJ51 _ ?_
            refine sr_k fun J52 hJ52 => ?_
            simp +decide only [Nat.reduceAdd, Nat.reduceMul, Int.reduceToNat, ak]
            obtain ⟨t53, h54, h⟩ := of_bind h
            refine call_m [(.arg 0, ⟨(.arg 0), [], none, .box⟩)] (s0 := [(.arg 0, ⟨.box, 0, [.sc (.int .u32 a0_0), .sc (.int .i64 a0_1), .sc (.int .i64 a0_2), .sc (.int .i64 a0_3), .sc (.int .i64 a0_4), .sc (.int .i64 a0_5), .own 1 l0_6.length (encL c_i64 l0_6), .sc (.int .i64 a0_7), .sc (.int .i64 j45), .sc (.int .i64 j45), .sc (.int .i64 (IntKind.i64.wrap (a0_10 + 1))), .sc (.int .i64 a0_11), .sc (.bool a0_12)]⟩)]) (by intro t ht; cases ht; decide) rfl rfl (by first | rfl | simp only [reduceCtorEq, Nat.reduceEqDiff, ak, akF, g3, g4]) (spec_l4Again.tri a0_0 a0_1 a0_2 a0_3 a0_4 a0_5 l0_6 a0_7 j45 j45 (IntKind.i64.wrap (a0_10 + 1)) a0_11 a0_12 _ h54) (by first | rfl | simp only [reduceCtorEq, Nat.reduceEqDiff, ak, akF]) (by simp [bkOk2, memK]) (fun hl54 => ?_)
            refine call_st (s4 := [(.arg 0, ⟨.box, 0, [.sc (.int .u32 a0_0), .sc (.int .i64 a0_1), .sc (.int .i64 a0_2), .sc (.int .i64 a0_3), .sc (.int .i64 a0_4), .sc (.int .i64 a0_5), .own 1 l0_6.length (encL c_i64 l0_6), .sc (.int .i64 a0_7), .sc (.int .i64 j45), .sc (.int .i64 j45), .sc (.int .i64 (IntKind.i64.wrap (a0_10 + 1))), .sc (.int .i64 a0_11), .sc (.bool a0_12)]⟩), (.tmp 2 0, ⟨.box, 0, [.sc (.int .i64 0), .own 3 (([] : List S68).length) (encL c68 ([] : List S68)), .own 1 (([] : List Int).length) (encL c_i64 ([] : List Int)), .sc (.int .i64 0), .sc (.int .i64 0)]⟩), (.tmp 3 0, ⟨.box, 0, [.sc (.int .i64 0), .own 3 0 (encL c68 ([] : List S68)), .own 1 0 (encL c_i64 ([] : List Int)), .sc (.int .i64 0), .sc (.int .i64 0)]⟩), (.tmp 130 0, ⟨.lst, 3, encL c68 t53⟩)]) (m1' := []) (m2' := []) (v' := .c (.ref (.tmp 130 0) [] 0 t53.length)) (Sto.mapN_killNil _ _) (mrgL_whole (new' := [.sc (.int .u32 a0_0), .sc (.int .i64 a0_1), .sc (.int .i64 a0_2), .sc (.int .i64 a0_3), .sc (.int .i64 a0_4), .sc (.int .i64 a0_5), .own 1 l0_6.length (encL c_i64 l0_6), .sc (.int .i64 a0_7), .sc (.int .i64 j45), .sc (.int .i64 j45), .sc (.int .i64 (IntKind.i64.wrap (a0_10 + 1))), .sc (.int .i64 a0_11), .sc (.bool a0_12)]) (mrgL_nil' _ _ _) rfl (by rfl) (.inl ⟨rfl, by first | rfl | simp only [reduceCtorEq, Nat.reduceEqDiff, ak, akF, Nat.zero_add, List.append_nil]⟩)) (by rfl) (mapT_killNil _ _) (by rfl) (by rfl) (by first | rfl | simp only [reduceCtorEq, Nat.reduceEqDiff, ak, akF, Nat.zero_add, List.append_nil]) ?_
            have g56 : (encL c68 t53).length = t53.length * 3 := by simp [encL_length c68_w]
            simp +decide only [Nat.reduceAdd, Nat.reduceMul, Int.reduceToNat, ak, g56]
            refine hJ52 _ ?_
            refine sr_k fun J57 hJ57 => ?_
            simp +decide only [Nat.reduceAdd, Nat.reduceMul, Int.reduceToNat, ak]
            refine hJ57 _ ?_
            obtain rfl := Option.some.inj h
            refine hKr _ ⟨_, rfl, [⟨(.tmp 3 0), [1], none, .lst⟩, ⟨(.tmp 3 0), [2], none, .lst⟩], _, rfl, rfl, ?_⟩
            first | rfl | (simp only [reduceCtorEq, Nat.reduceEqDiff, ak, akF]; done) | (simp [reduceCtorEq, Nat.reduceEqDiff, ak, akF] <;> omega)
/-! ### spec.l4Step: function 129 -/
def C129 : AC := .seq (.reg [.op none (.box 3 (.tmp 1)), .op none (.alloc 4 [.int .i64 0, .slice none 0 0, .slice none 0 0, .int .i64 0, .int .i64 0]), .gh, .keep [0, 3, 4]]) (.seq (.seq (.reg [.op none (.faddr 5 0 (.tmp 3)), .op none (.load 6 false 1 (.tmp 5)), .keep [0, 3, 4, 6]]) (.block 0 (.seq (.reg [.op none (.bin 8 .eql (.tmp 6) (.const (.int .i64 1))), .op none (.mv 7 (.tmp 8)), .keep [0, 3, 4, 6, 7]]) (.cond (.tmp 7) (.seq (.reg [.op none (.mv 9 (.tmp 0)), .op none (.faddr 10 1 (.tmp 3)), .op none (.load 11 false 1 (.tmp 10)), .call none (some 12) 151 [.tmp 9, .tmp 11], .op none (.store 5 (.tmp 4) (.tmp 12)), .keep [4]]) (.gh .ret)) (.seq (.reg [.op none (.bin 14 .eql (.tmp 6) (.const (.int .i64 2))), .op none (.mv 13 (.tmp 14)), .keep [0, 3, 4, 6, 13]]) (.cond (.tmp 13) (.seq (.reg [.op none (.mv 15 (.tmp 0)), .op none (.faddr 16 2 (.tmp 3)), .op none (.load 17 false 1 (.tmp 16)), .call none (some 18) 152 [.tmp 15, .tmp 17], .op none (.store 5 (.tmp 4) (.tmp 18)), .keep [4]]) (.gh .ret)) (.seq (.reg [.op none (.bin 20 .eql (.tmp 6) (.const (.int .i64 3))), .op none (.mv 19 (.tmp 20)), .keep [0, 4, 19]]) (.cond (.tmp 19) (.seq (.reg [.op none (.mv 21 (.tmp 0)), .call none (some 22) 153 [.tmp 21], .op none (.store 5 (.tmp 4) (.tmp 22)), .keep [4]]) (.gh .ret)) (.skip))))))))) (.seq (.reg [.op none (.build 23 [.int .i64 0, .slice none 0 0, .slice none 0 0, .int .i64 0, .int .i64 0] [(0, 1, .const (.int .i64 1))]), .gh, .op none (.store 5 (.tmp 4) (.tmp 23)), .keep [4]]) (.gh .ret)))
def r129 : List RV := [.cell 4 true 5]
theorem k129 : compC Try.prog 24 C129 (Try.f129.body.getD .skip) = some C129.erase := by kernel_rfl
theorem q129 : rvsOf Try.prog Try.f129.results.toList = some r129 := by kernel_rfl
def spec_l4Step.f (a0_0 : Int) (a0_1 : Int) (a0_2 : Int) (a0_3 : Int) (a0_4 : Int) (a0_5 : Int) (l0_6 : List Int) (a0_7 : Int) (a0_8 : Int) (a0_9 : Int) (a0_10 : Int) (a0_11 : Int) (a0_12 : Bool) (a1_0 : Int) (a1_1 : Int) (a1_2 : Int) : Option (Int × (List S68) × (List Int) × Int × Int × (List Int) × Int × Int × Int × Int × Int × Bool) := (if a1_0 = 1 then (spec_l4Send.f a0_0 a0_1 a0_2 a0_3 a0_4 a0_5 l0_6 a0_7 a0_8 a0_9 a0_10 a0_11 a0_12 a1_1 >>= fun t8 => (some (t8.1, t8.2.1, t8.2.2.1, t8.2.2.2.1, t8.2.2.2.2.1, t8.2.2.2.2.2.1, a0_7, t8.2.2.2.2.2.2, a0_9, a0_10, a0_11, a0_12))) else (if a1_0 = 2 then (spec_l4Ack.f a0_0 a0_1 a0_2 a0_3 a0_4 a0_5 l0_6 a0_7 a0_8 a0_9 a0_10 a0_11 a0_12 a1_2 >>= fun t16 => (some (t16.1, t16.2.1, t16.2.2.1, t16.2.2.2.1, t16.2.2.2.2.1, l0_6, t16.2.2.2.2.2.1, t16.2.2.2.2.2.2.1, t16.2.2.2.2.2.2.2.1, t16.2.2.2.2.2.2.2.2.1, t16.2.2.2.2.2.2.2.2.2.1, t16.2.2.2.2.2.2.2.2.2.2))) else (if a1_0 = 3 then (spec_l4Tick.f a0_0 a0_1 a0_2 a0_3 a0_4 a0_5 l0_6 a0_7 a0_8 a0_9 a0_10 a0_11 a0_12 >>= fun t24 => (some (t24.1, t24.2.1, t24.2.2.1, t24.2.2.2.1, t24.2.2.2.2.1, l0_6, a0_7, t24.2.2.2.2.2.1, t24.2.2.2.2.2.2.1, t24.2.2.2.2.2.2.2.1, t24.2.2.2.2.2.2.2.2.1, t24.2.2.2.2.2.2.2.2.2))) else (some (1, ([] : List S68), ([] : List Int), 0, 0, l0_6, a0_7, a0_8, a0_9, a0_10, a0_11, a0_12)))))
theorem spec_l4Step.tri (a0_0 : Int) (a0_1 : Int) (a0_2 : Int) (a0_3 : Int) (a0_4 : Int) (a0_5 : Int) (l0_6 : List Int) (a0_7 : Int) (a0_8 : Int) (a0_9 : Int) (a0_10 : Int) (a0_11 : Int) (a0_12 : Bool) (a1_0 : Int) (a1_1 : Int) (a1_2 : Int) (r : Int × (List S68) × (List Int) × Int × Int × (List Int) × Int × Int × Int × Int × Int × Bool) (h : spec_l4Step.f a0_0 a0_1 a0_2 a0_3 a0_4 a0_5 l0_6 a0_7 a0_8 a0_9 a0_10 a0_11 a0_12 a1_0 a1_1 a1_2 = some r) : Tri Try.prog 129 [.c (.ptr (.arg 0) [] 0), .g [.sc (.int .i64 a1_0), .sc (.int .i64 a1_1), .sc (.int .u32 a1_2)]] [(.arg 0, ⟨.box, 0, [.sc (.int .u32 a0_0), .sc (.int .i64 a0_1), .sc (.int .i64 a0_2), .sc (.int .i64 a0_3), .sc (.int .i64 a0_4), .sc (.int .i64 a0_5), .own 1 l0_6.length (encL c_i64 l0_6), .sc (.int .i64 a0_7), .sc (.int .i64 a0_8), .sc (.int .i64 a0_9), .sc (.int .i64 a0_10), .sc (.int .i64 a0_11), .sc (.bool a0_12)]⟩)] (fun o => o = ⟨.g [.sc (.int .i64 r.1), .ref (.res 0) [] 0 r.2.1.length, .ref (.res 1) [] 0 r.2.2.1.length, .sc (.int .i64 r.2.2.2.1), .sc (.int .i64 r.2.2.2.2.1)], [(.arg 0, ⟨.box, 0, [.sc (.int .u32 a0_0), .sc (.int .i64 a0_1), .sc (.int .i64 a0_2), .sc (.int .i64 a0_3), .sc (.int .i64 a0_4), .sc (.int .i64 a0_5), .own 1 r.2.2.2.2.2.1.length (encL c_i64 r.2.2.2.2.2.1), .sc (.int .i64 r.2.2.2.2.2.2.1), .sc (.int .i64 r.2.2.2.2.2.2.2.1), .sc (.int .i64 r.2.2.2.2.2.2.2.2.1), .sc (.int .i64 r.2.2.2.2.2.2.2.2.2.1), .sc (.int .i64 r.2.2.2.2.2.2.2.2.2.2.1), .sc (.bool r.2.2.2.2.2.2.2.2.2.2.2)]⟩), (.res 0, ⟨.lst, 3, encL c68 r.2.1⟩), (.res 1, ⟨.lst, 1, encL c_i64 r.2.2.1⟩)], [0], []⟩) := by
  refine tri_of_body (ac := C129) (xs := r129) Try.func129 (show Try.f129.body = some (Try.f129.body.getD .skip) from rfl) k129 q129 (Nat.le_of_ble_eq_true rfl) ?_
  refine body_of fun K hKn hKr => ?_
  unfold spec_l4Step.f at h
  unfold C129
  simp only [initT, Nat.reduceAdd]
  refine sr_k fun J1 hJ1 => ?_
  simp +decide only [Nat.reduceAdd, Nat.reduceMul, Int.reduceToNat, ak]
  refine gho_k (Weak.own (.tmp 4 0) (cs' := [.sc (.int .i64 0), .own 3 (([] : List S68).length) (encL c68 ([] : List S68)), .own 1 (([] : List Int).length) (encL c_i64 ([] : List Int)), .sc (.int .i64 0), .sc (.int .i64 0)]) rfl ⟨.inl rfl, .inr ⟨rfl, _, rfl⟩, .inr ⟨rfl, _, rfl⟩, .inl rfl, .inl rfl, trivial⟩) ?_
  simp +decide only [Nat.reduceAdd, Nat.reduceMul, Int.reduceToNat, ak]
  refine hJ1 _ ?_
  refine seq_k fun J2 hJ2 => ?_
  refine sr_k fun J3 hJ3 => ?_
  simp +decide only [Nat.reduceAdd, Nat.reduceMul, Int.reduceToNat, ak]
  refine hJ3 _ ?_
  refine block_k fun B4 B4n B4x B4r B4j => ?_
  refine sr_k fun J5 hJ5 => ?_
  simp +decide only [Nat.reduceAdd, Nat.reduceMul, Int.reduceToNat, ak]
  refine hJ5 _ ?_
  refine cond_k (b := decide (a1_0 = 1)) rfl (fun c6 => ?_) (fun c6 => ?_)
  · replace c6 := of_decide_eq_true c6; rw [if_pos c6] at h
    refine sr_k fun J7 hJ7 => ?_
    simp +decide only [Nat.reduceAdd, Nat.reduceMul, Int.reduceToNat, ak]
    obtain ⟨t8, h9, h⟩ := of_bind h
    refine call_m [(.arg 0, ⟨(.arg 0), [], none, .box⟩)] (s0 := [(.arg 0, ⟨.box, 0, [.sc (.int .u32 a0_0), .sc (.int .i64 a0_1), .sc (.int .i64 a0_2), .sc (.int .i64 a0_3), .sc (.int .i64 a0_4), .sc (.int .i64 a0_5), .own 1 l0_6.length (encL c_i64 l0_6), .sc (.int .i64 a0_7), .sc (.int .i64 a0_8), .sc (.int .i64 a0_9), .sc (.int .i64 a0_10), .sc (.int .i64 a0_11), .sc (.bool a0_12)]⟩)]) (by intro t ht; cases ht; decide) rfl rfl (by first | rfl | simp only [reduceCtorEq, Nat.reduceEqDiff, ak, akF]) (spec_l4Send.tri a0_0 a0_1 a0_2 a0_3 a0_4 a0_5 l0_6 a0_7 a0_8 a0_9 a0_10 a0_11 a0_12 a1_1 _ h9) (by first | rfl | simp only [reduceCtorEq, Nat.reduceEqDiff, ak, akF]) (by simp [bkOk2, memK]) (fun hl9 => ?_)
    refine call_st (s2 := [(.arg 0, ⟨.box, 0, [.sc (.int .u32 a0_0), .sc (.int .i64 a0_1), .sc (.int .i64 a0_2), .sc (.int .i64 a0_3), .sc (.int .i64 a0_4), .sc (.int .i64 a0_5), .own 1 l0_6.length (encL c_i64 l0_6), .sc (.int .i64 a0_7), .sc (.int .i64 a0_8), .sc (.int .i64 a0_9), .sc (.int .i64 a0_10), .sc (.int .i64 a0_11), .sc (.bool a0_12)]⟩), (.tmp 3 0, ⟨.box, 0, [.sc (.int .i64 a1_0), .sc (.int .i64 a1_1), .sc (.int .u32 a1_2)]⟩), (.tmp 4 0, ⟨.box, 0, [.sc (.int .i64 0), .own 3 (([] : List S68).length) (encL c68 ([] : List S68)), .own 1 (([] : List Int).length) (encL c_i64 ([] : List Int)), .sc (.int .i64 0), .sc (.int .i64 0)]⟩)]) (s4 := [(.arg 0, ⟨.box, 0, [.sc (.int .u32 a0_0), .sc (.int .i64 a0_1), .sc (.int .i64 a0_2), .sc (.int .i64 a0_3), .sc (.int .i64 a0_4), .sc (.int .i64 a0_5), .own 1 t8.2.2.2.2.2.1.length (encL c_i64 t8.2.2.2.2.2.1), .sc (.int .i64 a0_7), .sc (.int .i64 t8.2.2.2.2.2.2), .sc (.int .i64 a0_9), .sc (.int .i64 a0_10), .sc (.int .i64 a0_11), .sc (.bool a0_12)]⟩), (.tmp 3 0, ⟨.box, 0, [.sc (.int .i64 a1_0), .sc (.int .i64 a1_1), .sc (.int .u32 a1_2)]⟩), (.tmp 4 0, ⟨.box, 0, [.sc (.int .i64 0), .own 3 (([] : List S68).length) (encL c68 ([] : List S68)), .own 1 (([] : List Int).length) (encL c_i64 ([] : List Int)), .sc (.int .i64 0), .sc (.int .i64 0)]⟩), (.tmp 12 1, ⟨.lst, 1, encL c_i64 t8.2.2.1⟩), (.tmp 12 0, ⟨.lst, 3, encL c68 t8.2.1⟩)]) (t' := [(0, .c (.ptr (.arg 0) [] 0)), (3, .c (.ptr (.tmp 3 0) [] 0)), (4, .c (.ptr (.tmp 4 0) [] 0)), (6, .c (.sc (.int .i64 a1_0))), (7, .c (.sc (.bool (decide (a1_0 = 1))))), (9, .c (.ptr (.arg 0) [] 0)), (10, .c (.ptr (.tmp 3 0) [] 1)), (11, .c (.sc (.int .i64 a1_1)))]) (m1' := [0]) (m2' := []) (v' := .g [.sc (.int .i64 t8.1), .ref (.tmp 12 0) [] 0 t8.2.1.length, .ref (.tmp 12 1) [] 0 t8.2.2.1.length, .sc (.int .i64 t8.2.2.2.1), .sc (.int .i64 t8.2.2.2.2.1)]) (by first | rfl | simp only [reduceCtorEq, Nat.reduceEqDiff, ak, akF, List.contains_nil, List.contains_cons, Nat.reduceBEq]) (mrgL_whole (new' := [.sc (.int .u32 a0_0), .sc (.int .i64 a0_1), .sc (.int .i64 a0_2), .sc (.int .i64 a0_3), .sc (.int .i64 a0_4), .sc (.int .i64 a0_5), .own 1 t8.2.2.2.2.2.1.length (encL c_i64 t8.2.2.2.2.2.1), .sc (.int .i64 a0_7), .sc (.int .i64 t8.2.2.2.2.2.2), .sc (.int .i64 a0_9), .sc (.int .i64 a0_10), .sc (.int .i64 a0_11), .sc (.bool a0_12)]) (mrgL_nil' _ _ _) rfl (by rfl) (.inl ⟨rfl, by first | rfl | simp only [reduceCtorEq, Nat.reduceEqDiff, ak, akF, Nat.zero_add, List.append_nil]⟩)) (by rfl) (by first | rfl | simp only [reduceCtorEq, Nat.reduceEqDiff, ak, akF, List.contains_nil, List.contains_cons, Nat.reduceBEq]) (by rfl) (by rfl) (by first | rfl | simp only [reduceCtorEq, Nat.reduceEqDiff, ak, akF, Nat.zero_add, List.append_nil]) ?_
    have g11 : (encL c68 t8.2.1).length = t8.2.1.length * 3 := by simp [encL_length c68_w]
    have g12 : (encL c_i64 t8.2.2.1).length = t8.2.2.1.length * 1 := by simp [encL_length c_i64_w]
    simp +decide only [Nat.reduceAdd, Nat.reduceMul, Int.reduceToNat, ak, g11, g12]
    refine hJ7 _ ?_
    refine gh_k (Weak.mark [0] [] (by simp) (by simp)) ?_
    refine B4r _ ?_
    obtain rfl := Option.some.inj h
    refine hKr _ ⟨_, rfl, [⟨(.tmp 4 0), [1], none, .lst⟩, ⟨(.tmp 4 0), [2], none, .lst⟩], _, rfl, rfl, ?_⟩
    first | rfl | (simp only [reduceCtorEq, Nat.reduceEqDiff, ak, akF]; done) | (simp [reduceCtorEq, Nat.reduceEqDiff, ak, akF] <;> omega)
  · replace c6 := of_decide_eq_false c6; rw [if_neg c6] at h
    refine sr_k fun J13 hJ13 => ?_
    simp +decide only [Nat.reduceAdd, Nat.reduceMul, Int.reduceToNat, ak]
    refine hJ13 _ ?_
    refine cond_k (b := decide (a1_0 = 2)) rfl (fun c14 => ?_) (fun c14 => ?_)
    · replace c14 := of_decide_eq_true c14; rw [if_pos c14] at h
      refine sr_k fun J15 hJ15 => ?_
      simp +decide only [Nat.reduceAdd, Nat.reduceMul, Int.reduceToNat, ak]
      obtain ⟨t16, h17, h⟩ := of_bind h
      refine call_m [(.arg 0, ⟨(.arg 0), [], none, .box⟩)] (s0 := [(.arg 0, ⟨.box, 0, [.sc (.int .u32 a0_0), .sc (.int .i64 a0_1), .sc (.int .i64 a0_2), .sc (.int .i64 a0_3), .sc (.int .i64 a0_4), .sc (.int .i64 a0_5), .own 1 l0_6.length (encL c_i64 l0_6), .sc (.int .i64 a0_7), .sc (.int .i64 a0_8), .sc (.int .i64 a0_9), .sc (.int .i64 a0_10), .sc (.int .i64 a0_11), .sc (.bool a0_12)]⟩)]) (by intro t ht; cases ht; decide) rfl rfl (by first | rfl | simp only [reduceCtorEq, Nat.reduceEqDiff, ak, akF]) (spec_l4Ack.tri a0_0 a0_1 a0_2 a0_3 a0_4 a0_5 l0_6 a0_7 a0_8 a0_9 a0_10 a0_11 a0_12 a1_2 _ h17) (by first | rfl | simp only [reduceCtorEq, Nat.reduceEqDiff, ak, akF]) (by simp [bkOk2, memK]) (fun hl17 => ?_)
      refine call_st (s4 := [(.arg 0, ⟨.box, 0, [.sc (.int .u32 a0_0), .sc (.int .i64 a0_1), .sc (.int .i64 a0_2), .sc (.int .i64 a0_3), .sc (.int .i64 a0_4), .sc (.int .i64 a0_5), .own 1 l0_6.length (encL c_i64 l0_6), .sc (.int .i64 t16.2.2.2.2.2.1), .sc (.int .i64 t16.2.2.2.2.2.2.1), .sc (.int .i64 t16.2.2.2.2.2.2.2.1), .sc (.int .i64 t16.2.2.2.2.2.2.2.2.1), .sc (.int .i64 t16.2.2.2.2.2.2.2.2.2.1), .sc (.bool t16.2.2.2.2.2.2.2.2.2.2)]⟩), (.tmp 3 0, ⟨.box, 0, [.sc (.int .i64 a1_0), .sc (.int .i64 a1_1), .sc (.int .u32 a1_2)]⟩), (.tmp 4 0, ⟨.box, 0, [.sc (.int .i64 0), .own 3 (([] : List S68).length) (encL c68 ([] : List S68)), .own 1 (([] : List Int).length) (encL c_i64 ([] : List Int)), .sc (.int .i64 0), .sc (.int .i64 0)]⟩), (.tmp 18 1, ⟨.lst, 1, encL c_i64 t16.2.2.1⟩), (.tmp 18 0, ⟨.lst, 3, encL c68 t16.2.1⟩)]) (m1' := []) (m2' := []) (v' := .g [.sc (.int .i64 t16.1), .ref (.tmp 18 0) [] 0 t16.2.1.length, .ref (.tmp 18 1) [] 0 t16.2.2.1.length, .sc (.int .i64 t16.2.2.2.1), .sc (.int .i64 t16.2.2.2.2.1)]) (Sto.mapN_killNil _ _) (mrgL_whole (new' := [.sc (.int .u32 a0_0), .sc (.int .i64 a0_1), .sc (.int .i64 a0_2), .sc (.int .i64 a0_3), .sc (.int .i64 a0_4), .sc (.int .i64 a0_5), .own 1 l0_6.length (encL c_i64 l0_6), .sc (.int .i64 t16.2.2.2.2.2.1), .sc (.int .i64 t16.2.2.2.2.2.2.1), .sc (.int .i64 t16.2.2.2.2.2.2.2.1), .sc (.int .i64 t16.2.2.2.2.2.2.2.2.1), .sc (.int .i64 t16.2.2.2.2.2.2.2.2.2.1), .sc (.bool t16.2.2.2.2.2.2.2.2.2.2)]) (mrgL_nil' _ _ _) rfl (by rfl) (.inl ⟨rfl, by first | rfl | simp only [reduceCtorEq, Nat.reduceEqDiff, ak, akF, Nat.zero_add, List.append_nil]⟩)) (by rfl) (mapT_killNil _ _) (by rfl) (by rfl) (by first | rfl | simp only [reduceCtorEq, Nat.reduceEqDiff, ak, akF, Nat.zero_add, List.append_nil]) ?_
      have g19 : (encL c68 t16.2.1).length = t16.2.1.length * 3 := by simp [encL_length c68_w]
      have g20 : (encL c_i64 t16.2.2.1).length = t16.2.2.1.length * 1 := by simp [encL_length c_i64_w]
      simp +decide only [Nat.reduceAdd, Nat.reduceMul, Int.reduceToNat, ak, g19, g20]
      refine hJ15 _ ?_
      refine gh_k (Weak.mark [0] [] (by simp) (by simp)) ?_
      refine B4r _ ?_
      obtain rfl := Option.some.inj h
      refine hKr _ ⟨_, rfl, [⟨(.tmp 4 0), [1], none, .lst⟩, ⟨(.tmp 4 0), [2], none, .lst⟩], _, rfl, rfl, ?_⟩
      first | rfl | (simp only [reduceCtorEq, Nat.reduceEqDiff, ak, akF]; done) | (simp [reduceCtorEq, Nat.reduceEqDiff, ak, akF] <;> omega)
    · replace c14 := of_decide_eq_false c14; rw [if_neg c14] at h
      refine sr_k fun J21 hJ21 => ?_
      simp +decide only [Nat.reduceAdd, Nat.reduceMul, Int.reduceToNat, ak]
      refine hJ21 _ ?_
      refine cond_k (b := decide (a1_0 = 3)) rfl (fun c22 => ?_) (fun c22 => ?_)
      · replace c22 := of_decide_eq_true c22; rw [if_pos c22] at h
        refine sr_k fun J23 hJ23 => ?_
        simp +decide only [Nat.reduceAdd, Nat.reduceMul, Int.reduceToNat, ak]
        obtain ⟨t24, h25, h⟩ := of_bind h
        refine call_m [(.arg 0, ⟨(.arg 0), [], none, .box⟩)] (s0 := [(.arg 0, ⟨.box, 0, [.sc (.int .u32 a0_0), .sc (.int .i64 a0_1), .sc (.int .i64 a0_2), .sc (.int .i64 a0_3), .sc (.int .i64 a0_4), .sc (.int .i64 a0_5), .own 1 l0_6.length (encL c_i64 l0_6), .sc (.int .i64 a0_7), .sc (.int .i64 a0_8), .sc (.int .i64 a0_9), .sc (.int .i64 a0_10), .sc (.int .i64 a0_11), .sc (.bool a0_12)]⟩)]) (by intro t ht; cases ht; decide) rfl rfl (by first | rfl | simp only [reduceCtorEq, Nat.reduceEqDiff, ak, akF]) (spec_l4Tick.tri a0_0 a0_1 a0_2 a0_3 a0_4 a0_5 l0_6 a0_7 a0_8 a0_9 a0_10 a0_11 a0_12 _ h25) (by first | rfl | simp only [reduceCtorEq, Nat.reduceEqDiff, ak, akF]) (by simp [bkOk2, memK]) (fun hl25 => ?_)
        refine call_st (s4 := [(.arg 0, ⟨.box, 0, [.sc (.int .u32 a0_0), .sc (.int .i64 a0_1), .sc (.int .i64 a0_2), .sc (.int .i64 a0_3), .sc (.int .i64 a0_4), .sc (.int .i64 a0_5), .own 1 l0_6.length (encL c_i64 l0_6), .sc (.int .i64 a0_7), .sc (.int .i64 t24.2.2.2.2.2.1), .sc (.int .i64 t24.2.2.2.2.2.2.1), .sc (.int .i64 t24.2.2.2.2.2.2.2.1), .sc (.int .i64 t24.2.2.2.2.2.2.2.2.1), .sc (.bool t24.2.2.2.2.2.2.2.2.2)]⟩), (.tmp 3 0, ⟨.box, 0, [.sc (.int .i64 a1_0), .sc (.int .i64 a1_1), .sc (.int .u32 a1_2)]⟩), (.tmp 4 0, ⟨.box, 0, [.sc (.int .i64 0), .own 3 (([] : List S68).length) (encL c68 ([] : List S68)), .own 1 (([] : List Int).length) (encL c_i64 ([] : List Int)), .sc (.int .i64 0), .sc (.int .i64 0)]⟩), (.tmp 22 1, ⟨.lst, 1, encL c_i64 t24.2.2.1⟩), (.tmp 22 0, ⟨.lst, 3, encL c68 t24.2.1⟩)]) (m1' := []) (m2' := []) (v' := .g [.sc (.int .i64 t24.1), .ref (.tmp 22 0) [] 0 t24.2.1.length, .ref (.tmp 22 1) [] 0 t24.2.2.1.length, .sc (.int .i64 t24.2.2.2.1), .sc (.int .i64 t24.2.2.2.2.1)]) (Sto.mapN_killNil _ _) (mrgL_whole (new' := [.sc (.int .u32 a0_0), .sc (.int .i64 a0_1), .sc (.int .i64 a0_2), .sc (.int .i64 a0_3), .sc (.int .i64 a0_4), .sc (.int .i64 a0_5), .own 1 l0_6.length (encL c_i64 l0_6), .sc (.int .i64 a0_7), .sc (.int .i64 t24.2.2.2.2.2.1), .sc (.int .i64 t24.2.2.2.2.2.2.1), .sc (.int .i64 t24.2.2.2.2.2.2.2.1), .sc (.int .i64 t24.2.2.2.2.2.2.2.2.1), .sc (.bool t24.2.2.2.2.2.2.2.2.2)]) (mrgL_nil' _ _ _) rfl (by rfl) (.inl ⟨rfl, by first | rfl | simp only [reduceCtorEq, Nat.reduceEqDiff, ak, akF, Nat.zero_add, List.append_nil]⟩)) (by rfl) (mapT_killNil _ _) (by rfl) (by rfl) (by first | rfl | simp only [reduceCtorEq, Nat.reduceEqDiff, ak, akF, Nat.zero_add, List.append_nil]) ?_
        have g27 : (encL c68 t24.2.1).length = t24.2.1.length * 3 := by simp [encL_length c68_w]
        have g28 : (encL c_i64 t24.2.2.1).length = t24.2.2.1.length * 1 := by simp [encL_length c_i64_w]
        simp +decide only [Nat.reduceAdd, Nat.reduceMul, Int.reduceToNat, ak, g27, g28]
        refine hJ23 _ ?_
        refine gh_k (Weak.mark [0] [] (by simp) (by simp)) ?_
        refine B4r _ ?_
        obtain rfl := Option.some.inj h
        refine hKr _ ⟨_, rfl, [⟨(.tmp 4 0), [1], none, .lst⟩, ⟨(.tmp 4 0), [2], none, .lst⟩], _, rfl, rfl, ?_⟩
        first | rfl | (simp only [reduceCtorEq, Nat.reduceEqDiff, ak, akF]; done) | (simp [reduceCtorEq, Nat.reduceEqDiff, ak, akF] <;> omega)
      · replace c22 := of_decide_eq_false c22; rw [if_neg c22] at h
        refine B4n _ ?_
        refine hJ2 _ ?_
        refine sr_k fun J29 hJ29 => ?_
        simp +decide only [Nat.reduceAdd, Nat.reduceMul, Int.reduceToNat, ak]
        refine gho_k ((Weak.nmg' 23 1 (.tmp 23 21) 3 (encL c68 ([] : List S68)) rfl rfl rfl rfl).trans (Weak.nmg' 23 2 (.tmp 23 22) 1 (encL c_i64 ([] : List Int)) rfl rfl rfl rfl)) ?_
        have g30 : (encL c68 ([] : List S68)).length = 0 * 3 := by simp [encL_length c68_w]
        have g31 : (encL c_i64 ([] : List Int)).length = 0 * 1 := by simp [encL_length c_i64_w]
        simp +decide only [Nat.reduceAdd, Nat.reduceMul, Int.reduceToNat, ak, g30, g31]
        refine hJ29 _ ?_
        refine gh_k (Weak.mark [0] [] (by simp) (by simp)) ?_
        obtain rfl := Option.some.inj h
        refine hKr _ ⟨_, rfl, [⟨(.tmp 4 0), [1], none, .lst⟩, ⟨(.tmp 4 0), [2], none, .lst⟩], _, rfl, rfl, ?_⟩
        first | rfl | (simp only [reduceCtorEq, Nat.reduceEqDiff, ak, akF]; done) | (simp [reduceCtorEq, Nat.reduceEqDiff, ak, akF] <;> omega)
/-! ### spec.l4DrawEvents: function 85 -/
def C85_l0 : AC := .seq (.seq (.reg [.op none (.mv 18 (.tmp 10)), .op none (.mv 19 (.tmp 2)), .op none (.bin 20 .lss (.tmp 18) (.tmp 19)), .keep [0, 2, 4, 7, 8, 9, 10, 20]]) (.cond (.tmp 20) (.skip) (.gh (.exit 0)))) (.seq (.block 1 (.seq (.reg [.op none (.mv 23 (.tmp 0)), .call none (some 24) 69 [.tmp 23, .const (.int .i64 100)], .op none (.mv 11 (.tmp 24)), .keep [0, 2, 4, 7, 8, 9, 10, 11]]) (.seq (.ga (.seq (.reg [.op none (.mv 25 (.tmp 9)), .op none (.bin 26 .eql (.tmp 25) (.const (.int .i64 1))), .keep [0, 2, 4, 7, 8, 9, 10, 11, 26]]) (.cond (.tmp 26) (.reg [.op none (.mv 27 (.tmp 11)), .op none (.bin 28 .mul (.tmp 27) (.const (.int .i64 7))), .op none (.bin 29 .quo (.tmp 28) (.const (.int .i64 10))), .op none (.bin 30 .add (.const (.int .i64 30)) (.tmp 29)), .op none (.mv 11 (.tmp 30)), .keep [0, 2, 4, 7, 8, 9, 10, 11]]) (.skip)))) (.seq (.reg [.op none (.mv 31 (.tmp 10)), .op none (.bin 32 .add (.tmp 31) (.const (.int .i64 10))), .op none (.build 33 [.int .i64 0, .int .i64 0, .int .u32 0] [(0, 1, .const (.int .i64 1)), (1, 1, .tmp 32)]), .op none (.alloc 12 [.int .i64 0, .int .i64 0, .int .u32 0]), .op none (.store 3 (.tmp 12) (.tmp 33)), .keep [0, 2, 4, 7, 8, 9, 10, 11, 12]]) (.seq (.ga (.seq (.ga (.reg [.op none (.mv 34 (.tmp 11)), .op none (.bin 35 .geq (.tmp 34) (.const (.int .i64 45))), .op none (.mv 36 (.tmp 35)), .op (some (36, true)) (.mv 37 (.tmp 11)), .op (some (36, true)) (.bin 38 .lss (.tmp 37) (.const (.int .i64 60))), .op none (.pick 39 (.tmp 36) (.tmp 38) (.const (.bool false))), .keep [0, 2, 4, 7, 8, 9, 10, 11, 12, 39]])) (.cond (.tmp 39) (.seq (.regD (.first (.op none (.faddr 40 0 (.tmp 4))) (.first (.op none (.faddr 42 7 (.tmp 8))) (.first (.op none (.mv 46 (.tmp 0))) (.pin [13, 12, 11, 5] (.op none (.load 41 false 1 (.tmp 40))) (.pin [13, 12, 11, 5, 4] (.op none (.load 43 false 1 (.tmp 42))) (.pin [13, 12, 11, 5] (.op none (.conv 44 .u32 (.tmp 43))) (.pin [13, 12, 11] (.op none (.bin 45 .add (.tmp 41) (.tmp 44))) (.alt (.call none (some 47) 128 [.tmp 8]) none (.first (.op none (.bin 48 .add (.tmp 47) (.const (.int .i64 1)))) (.alt (.call none (some 49) 69 [.tmp 46, .tmp 48]) none (.first (.op none (.conv 50 .u32 (.tmp 49))) (.pin [13, 12] (.op none (.bin 51 .add (.tmp 45) (.tmp 50))) (.pin [13] (.op none (.build 52 [.int .i64 0, .int .i64 0, .int .u32 0] [(0, 1, .const (.int .i64 2)), (2, 1, .tmp 51)])) (.alt (.op none (.store 3 (.tmp 12) (.tmp 52))) (some 13) (.done) (.stop))))) (.stop))) (.stop))))))))) [0, 2, 4, 7, 8, 9, 10, 12]) (.seq (.reg [.op none (.mv 53 (.tmp 0)), .call none (some 54) 69 [.tmp 53, .const (.int .i64 4)], .op none (.bin 55 .eql (.tmp 54) (.const (.int .i64 0))), .keep [0, 2, 4, 7, 8, 9, 10, 12, 55]]) (.cond (.tmp 55) (.regD (.first (.op none (.faddr 56 0 (.tmp 4))) (.first (.op none (.faddr 58 7 (.tmp 8))) (.first (.op none (.mv 63 (.tmp 0))) (.pin [12, 11, 10, 6, 5] (.op none (.load 57 false 1 (.tmp 56))) (.pin [12, 11, 10, 6, 5, 4] (.op none (.load 59 false 1 (.tmp 58))) (.pin [12, 11, 10, 6, 5] (.op none (.conv 60 .u32 (.tmp 59))) (.pin [12, 11, 10, 6] (.op none (.bin 61 .add (.tmp 57) (.tmp 60))) (.pin [12, 11, 10] (.op none (.bin 62 .sub (.tmp 61) (.const (.int .u32 2)))) (.alt (.call none (some 64) 69 [.tmp 63, .const (.int .i64 8)]) none (.first (.op none (.conv 65 .u32 (.tmp 64))) (.pin [12, 11] (.op none (.bin 66 .add (.tmp 62) (.tmp 65))) (.pin [12] (.op none (.faddr 67 2 (.tmp 12))) (.alt (.op none (.store 1 (.tmp 67) (.tmp 66))) (some 12) (.done) (.stop))))) (.stop)))))))))) [0, 2, 4, 7, 8, 9, 10, 12]) (.skip)))) (.seq (.reg [.op none (.mv 68 (.tmp 11)), .op none (.bin 69 .geq (.tmp 68) (.const (.int .i64 60))), .keep [0, 2, 4, 7, 8, 9, 10, 12, 69]]) (.cond (.tmp 69) (.reg [.op none (.build 70 [.int .i64 0, .int .i64 0, .int .u32 0] [(0, 1, .const (.int .i64 3))]), .op none (.store 3 (.tmp 12) (.tmp 70)), .keep [0, 2, 4, 7, 8, 9, 10, 12]]) (.skip)))))) (.seq (.ga (.seq (.reg [.op none (.mv 71 (.tmp 0)), .call none (some 72) 69 [.tmp 71, .const (.int .i64 60)], .op none (.bin 73 .eql (.tmp 72) (.const (.int .i64 0))), .keep [0, 2, 4, 7, 8, 9, 10, 12, 73]]) (.cond (.tmp 73) (.reg [.op none (.mv 74 (.tmp 0)), .call none (some 75) 69 [.tmp 74, .const (.int .i64 2)], .op none (.bin 76 .mul (.const (.int .i64 4)) (.tmp 75)), .op none (.faddr 77 0 (.tmp 12)), .op none (.store 1 (.tmp 77) (.tmp 76)), .keep [0, 2, 4, 7, 8, 9, 10, 12]]) (.skip)))) (.seq (.reg [.op none (.load 78 true 3 (.tmp 12)), .call none (some 79) 129 [.tmp 8, .tmp 78], .keep [0, 2, 4, 7, 8, 9, 10, 12]]) (.reg [.op none (.mv 80 (.tmp 7)), .op none (.load 81 true 3 (.tmp 12)), .op none (.bslice 82 3 [.int .i64 0, .int .i64 0, .int .u32 0] 1 [(0, .tmp 81)]), .op none (.app 83 3 24 true (.tmp 80) (.tmp 82)), .op none (.mv 7 (.tmp 83)), .keep [0, 2, 4, 7, 8, 9, 10]])))))))) (.reg [.op none (.mv 21 (.tmp 10)), .op none (.bin 22 .add (.tmp 21) (.const (.int .i64 1))), .op none (.mv 10 (.tmp 22)), .keep [0, 2, 4, 7, 8, 9, 10]]))
def C85 : AC := .seq (.reg [.op none (.box 4 (.tmp 1)), .op none (.mv 6 (.const (.slice none 0 0))), .gh, .keep [0, 2, 4]]) (.seq (.reg [.op none (.bslice 13 3 [.int .i64 0, .int .i64 0, .int .u32 0] 0 []), .op none (.mv 7 (.tmp 13)), .keep [0, 2, 4, 7]]) (.seq (.reg [.op none (.load 14 true 6 (.tmp 4)), .call none (some 15) 127 [.tmp 14], .op none (.alloc 8 [.int .u32 0, .int .i64 0, .int .i64 0, .int .i64 0, .int .i64 0, .int .i64 0, .slice none 0 0, .int .i64 0, .int .i64 0, .int .i64 0, .int .i64 0, .int .i64 0, .bool false]), .gh, .op none (.store 13 (.tmp 8) (.tmp 15)), .keep [0, 2, 4, 7, 8]]) (.seq (.reg [.op none (.mv 16 (.tmp 0)), .call none (some 17) 69 [.tmp 16, .const (.int .i64 3)], .op none (.mv 9 (.tmp 17)), .keep [0, 2, 4, 7, 8, 9]]) (.seq (.seq (.reg [.op none (.mv 10 (.const (.int .i64 0))), .keep [0, 2, 4, 7, 8, 9, 10]]) (.block 0 (.gh (.loop (.ga C85_l0))))) (.seq (.reg [.op none (.mv 84 (.tmp 7)), .op none (.mv 6 (.tmp 84)), .keep [6]]) (.ret))))))
def r85 : List RV := [.tmp 6]
theorem k85 : compC Try.prog 85 C85 (Try.f85.body.getD .skip) = some C85.erase := by kernel_rfl
theorem q85 : rvsOf Try.prog Try.f85.results.toList = some r85 := by kernel_rfl
def spec_l4DrawEvents.l0 (l0_0 : List Int) (x0_0 : Int) (x0_1 : Int) (x0_5 : Int) (x0_6 : Int) (x0_7 : Int) (x0_8 : Int) (x0_9 : Int) (x0_10 : Int) (x0_12 : Int) (x0_13 : Int) (x0_14 : Int) (x0_15 : Int) (x0_16 : Int) (x0_17 : Int) (x0_2 : Int) (x0_3 : Int) (x0_4 : Int) (x0_11 : (List S63)) (x0_18 : (List Int)) (x0_19 : Int) (x0_20 : Int) (x0_21 : Int) (x0_22 : Int) (x0_23 : Int) (x0_24 : Bool) : Option (Int × Int × (List S63)) := (if x0_2 < x0_0 then (spec_l1Next.f l0_0 x0_3 x0_4 100 >>= fun t24 => ((if x0_1 = 1 then (some (IntKind.i64.wrap (30 + (IntKind.i64.wrap ((IntKind.i64.wrap (t24.1 * 7)).tdiv 10))))) else (some t24.1)) >>= fun (j27 : Int) => (((if j27 ≥ 45 then (some (decide (j27 < 60))) else (some false)) >>= fun (j38 : Bool) => (if j38 = true then (spec_l4Out.f x0_12 x0_13 x0_14 x0_15 x0_16 x0_17 x0_18 x0_19 x0_20 x0_21 x0_22 x0_23 x0_24 >>= fun t47 => (spec_l1Next.f l0_0 t24.2.1 t24.2.2 (IntKind.i64.wrap (t47 + 1)) >>= fun t50 => (spec_l1Next.f l0_0 t50.2.1 t50.2.2 4 >>= fun t58 => (if t58.1 = 0 then (spec_l1Next.f l0_0 t58.2.1 t58.2.2 8 >>= fun t62 => (some (t62.2.1, t62.2.2, 2, 0, IntKind.u32.wrap ((IntKind.u32.wrap ((IntKind.u32.wrap (x0_5 + (IntKind.u32.wrap x0_19))) - 2)) + (IntKind.u32.wrap t62.1))))) else (some (t58.2.1, t58.2.2, 2, 0, IntKind.u32.wrap ((IntKind.u32.wrap (x0_5 + (IntKind.u32.wrap x0_19))) + (IntKind.u32.wrap t50.1)))))))) else (if j27 ≥ 60 then (some (t24.2.1, t24.2.2, 3, 0, 0)) else (some (t24.2.1, t24.2.2, 1, IntKind.i64.wrap (x0_2 + 10), 0))))) >>= fun (j34 : Int × Int × Int × Int × Int) => ((spec_l1Next.f l0_0 j34.1 j34.2.1 60 >>= fun t73 => (if t73.1 = 0 then (spec_l1Next.f l0_0 t73.2.1 t73.2.2 2 >>= fun t77 => (some (t77.2.1, t77.2.2, IntKind.i64.wrap (4 * t77.1)))) else (some (t73.2.1, t73.2.2, j34.2.2.1)))) >>= fun (j68 : Int × Int × Int) => (spec_l4Step.f x0_12 x0_13 x0_14 x0_15 x0_16 x0_17 x0_18 x0_19 x0_20 x0_21 x0_22 x0_23 x0_24 j68.2.2 j34.2.2.2.1 j34.2.2.2.2 >>= fun t81 => (if (x0_11.length + 1) * 24 ≤ 140737488355328 then (spec_l4DrawEvents.l0 l0_0 x0_0 x0_1 x0_5 x0_6 x0_7 x0_8 x0_9 x0_10 x0_12 x0_13 x0_14 x0_15 x0_16 x0_17 (IntKind.i64.wrap (x0_2 + 1)) j68.1 j68.2.1 (x0_11 ++ ([(⟨j68.2.2, j34.2.2.2.1, j34.2.2.2.2⟩ : S63)] : List S63)) t81.2.2.2.2.2.1 t81.2.2.2.2.2.2.1 t81.2.2.2.2.2.2.2.1 t81.2.2.2.2.2.2.2.2.1 t81.2.2.2.2.2.2.2.2.2.1 t81.2.2.2.2.2.2.2.2.2.2.1 t81.2.2.2.2.2.2.2.2.2.2.2) else none)))))) else (some (x0_3, x0_4, x0_11)))
  partial_fixpoint
def spec_l4DrawEvents.f (l0_0 : List Int) (a0_1 : Int) (a0_2 : Int) (a1_0 : Int) (a1_1 : Int) (a1_2 : Int) (a1_3 : Int) (a1_4 : Int) (a1_5 : Int) (a2 : Int) : Option ((List S63) × Int × Int) := (spec_l4Begin.f a1_0 a1_1 a1_2 a1_3 a1_4 a1_5 >>= fun t7 => (spec_l1Next.f l0_0 a0_1 a0_2 3 >>= fun t12 => (spec_l4DrawEvents.l0 l0_0 a2 t12.1 a1_0 a1_1 a1_2 a1_3 a1_4 a1_5 t7.1 t7.2.1 t7.2.2.1 t7.2.2.2.1 t7.2.2.2.2.1 t7.2.2.2.2.2.1 0 t12.2.1 t12.2.2 ([] : List S63) t7.2.2.2.2.2.2.1 t7.2.2.2.2.2.2.2.1 t7.2.2.2.2.2.2.2.2.1 t7.2.2.2.2.2.2.2.2.2.1 t7.2.2.2.2.2.2.2.2.2.2.1 t7.2.2.2.2.2.2.2.2.2.2.2.1 t7.2.2.2.2.2.2.2.2.2.2.2.2 >>= fun (y93 : (Int × Int × (List S63))) => (some (y93.2.2, y93.1, y93.2.1)))))
def spec_l4DrawEvents.l0_M (cs1 : List Cell) (o1 : Nat) (l0_0 : List Int) (hv1 : Vw c_u8 1 cs1 o1 l0_0) (x0_0 : Int) (x0_1 : Int) (x0_5 : Int) (x0_6 : Int) (x0_7 : Int) (x0_8 : Int) (x0_9 : Int) (x0_10 : Int) (x0_12 : Int) (x0_13 : Int) (x0_14 : Int) (x0_15 : Int) (x0_16 : Int) (x0_17 : Int) (x0_2 : Int) (x0_3 : Int) (x0_4 : Int) (x0_11 : (List S63)) (x0_18 : (List Int)) (x0_19 : Int) (x0_20 : Int) (x0_21 : Int) (x0_22 : Int) (x0_23 : Int) (x0_24 : Bool) (y : (Int × Int × (List S63))) : Prop := ∀ (K : AE → St → Prop), (K (.exit 0) ⟨[(7, .c (.ref (.tmp 13 0) [] 0 y.2.2.length))], [(.arg 0, ⟨.box, 0, [.ref (.arg 1) [] o1 l0_0.length, .sc (.int .i64 y.1), .sc (.int .u64 y.2.1)]⟩), (.arg 1, ⟨.fz, 1, cs1⟩), (.tmp 13 0, ⟨.lst, 3, encL c63 y.2.2⟩)], [], []⟩) → loopS Try.prog 85 (.ga C85_l0) K ⟨[(0, .c (.ptr (.arg 0) [] 0)), (2, .c (.sc (.int .i64 x0_0))), (4, .c (.ptr (.tmp 4 0) [] 0)), (7, .c (.ref (.tmp 13 0) [] 0 x0_11.length)), (8, .c (.ptr (.tmp 8 0) [] 0)), (9, .c (.sc (.int .i64 x0_1))), (10, .c (.sc (.int .i64 x0_2)))], [(.arg 0, ⟨.box, 0, [.ref (.arg 1) [] o1 l0_0.length, .sc (.int .i64 x0_3), .sc (.int .u64 x0_4)]⟩), (.arg 1, ⟨.fz, 1, cs1⟩), (.tmp 4 0, ⟨.box, 0, [.sc (.int .u32 x0_5), .sc (.int .i64 x0_6), .sc (.int .i64 x0_7), .sc (.int .i64 x0_8), .sc (.int .i64 x0_9), .sc (.int .i64 x0_10)]⟩), (.tmp 13 0, ⟨.lst, 3, encL c63 x0_11⟩), (.tmp 8 0, ⟨.box, 0, [.sc (.int .u32 x0_12), .sc (.int .i64 x0_13), .sc (.int .i64 x0_14), .sc (.int .i64 x0_15), .sc (.int .i64 x0_16), .sc (.int .i64 x0_17), .own 1 x0_18.length (encL c_i64 x0_18), .sc (.int .i64 x0_19), .sc (.int .i64 x0_20), .sc (.int .i64 x0_21), .sc (.int .i64 x0_22), .sc (.int .i64 x0_23), .sc (.bool x0_24)]⟩)], [], []⟩
theorem spec_l4DrawEvents.l0_walk (cs1 : List Cell) (o1 : Nat) (l0_0 : List Int) (hv1 : Vw c_u8 1 cs1 o1 l0_0) (x0_0 : Int) (x0_1 : Int) (x0_5 : Int) (x0_6 : Int) (x0_7 : Int) (x0_8 : Int) (x0_9 : Int) (x0_10 : Int) (x0_12 : Int) (x0_13 : Int) (x0_14 : Int) (x0_15 : Int) (x0_16 : Int) (x0_17 : Int) (x0_2 : Int) (x0_3 : Int) (x0_4 : Int) (x0_11 : (List S63)) (x0_18 : (List Int)) (x0_19 : Int) (x0_20 : Int) (x0_21 : Int) (x0_22 : Int) (x0_23 : Int) (x0_24 : Bool) (y : (Int × Int × (List S63))) (h : spec_l4DrawEvents.l0 l0_0 x0_0 x0_1 x0_5 x0_6 x0_7 x0_8 x0_9 x0_10 x0_12 x0_13 x0_14 x0_15 x0_16 x0_17 x0_2 x0_3 x0_4 x0_11 x0_18 x0_19 x0_20 x0_21 x0_22 x0_23 x0_24 = some y) : spec_l4DrawEvents.l0_M cs1 o1 l0_0 hv1 x0_0 x0_1 x0_5 x0_6 x0_7 x0_8 x0_9 x0_10 x0_12 x0_13 x0_14 x0_15 x0_16 x0_17 x0_2 x0_3 x0_4 x0_11 x0_18 x0_19 x0_20 x0_21 x0_22 x0_23 x0_24 y := by
  refine spec_l4DrawEvents.l0.partial_correctness l0_0 x0_0 x0_1 x0_5 x0_6 x0_7 x0_8 x0_9 x0_10 x0_12 x0_13 x0_14 x0_15 x0_16 x0_17 (motive := fun x0_2 x0_3 x0_4 x0_11 x0_18 x0_19 x0_20 x0_21 x0_22 x0_23 x0_24 y => spec_l4DrawEvents.l0_M cs1 o1 l0_0 hv1 x0_0 x0_1 x0_5 x0_6 x0_7 x0_8 x0_9 x0_10 x0_12 x0_13 x0_14 x0_15 x0_16 x0_17 x0_2 x0_3 x0_4 x0_11 x0_18 x0_19 x0_20 x0_21 x0_22 x0_23 x0_24 y) ?_ x0_2 x0_3 x0_4 x0_11 x0_18 x0_19 x0_20 x0_21 x0_22 x0_23 x0_24 y h
  clear h
  unfold spec_l4DrawEvents.l0_M
  intro rec ih x0_2 x0_3 x0_4 x0_11 x0_18 x0_19 x0_20 x0_21 x0_22 x0_23 x0_24 y h K hx0
  refine loop_unroll (ga_k fun G0 G0n G0r G0x => ?_)
  unfold C85_l0
  refine seq_k fun J18 hJ18 => ?_
  refine sr_k fun J19 hJ19 => ?_
  simp +decide only [Nat.reduceAdd, Nat.reduceMul, Int.reduceToNat, ak]
  refine hJ19 _ ?_
  refine cond_k (b := decide (x0_2 < x0_0)) rfl (fun c20 => ?_) (fun c20 => ?_)
  · replace c20 := of_decide_eq_true c20; rw [if_pos c20] at h
    refine hJ18 _ ?_
    refine seq_k fun J21 hJ21 => ?_
    refine block_k fun B22 B22n B22x B22r B22j => ?_
    refine sr_k fun J23 hJ23 => ?_
    simp +decide only [Nat.reduceAdd, Nat.reduceMul, Int.reduceToNat, ak]
    obtain ⟨t24, h25, h⟩ := of_bind h
    refine call_m [(.arg 0, ⟨(.arg 0), [], none, .box⟩), (.arg 1, ⟨(.arg 1), [], none, .fz⟩)] (s0 := [(.arg 0, ⟨.box, 0, [.ref (.arg 1) [] o1 l0_0.length, .sc (.int .i64 x0_3), .sc (.int .u64 x0_4)]⟩), (.arg 1, ⟨.fz, 1, cs1⟩)]) (by intro t ht; cases ht; decide) rfl rfl (by first | rfl | simp only [reduceCtorEq, Nat.reduceEqDiff, ak, akF]) (spec_l1Next.tri (cs1) o1 l0_0 hv1 x0_3 x0_4 100 _ h25) (by first | rfl | simp only [reduceCtorEq, Nat.reduceEqDiff, ak, akF]) (by simp [bkOk2, memK]) (fun hl25 => ?_)
    refine call_st (s4 := [(.arg 0, ⟨.box, 0, [.ref (.arg 1) [] o1 l0_0.length, .sc (.int .i64 t24.2.1), .sc (.int .u64 t24.2.2)]⟩), (.arg 1, ⟨.fz, 1, cs1⟩), (.tmp 4 0, ⟨.box, 0, [.sc (.int .u32 x0_5), .sc (.int .i64 x0_6), .sc (.int .i64 x0_7), .sc (.int .i64 x0_8), .sc (.int .i64 x0_9), .sc (.int .i64 x0_10)]⟩), (.tmp 13 0, ⟨.lst, 3, encL c63 x0_11⟩), (.tmp 8 0, ⟨.box, 0, [.sc (.int .u32 x0_12), .sc (.int .i64 x0_13), .sc (.int .i64 x0_14), .sc (.int .i64 x0_15), .sc (.int .i64 x0_16), .sc (.int .i64 x0_17), .own 1 x0_18.length (encL c_i64 x0_18), .sc (.int .i64 x0_19), .sc (.int .i64 x0_20), .sc (.int .i64 x0_21), .sc (.int .i64 x0_22), .sc (.int .i64 x0_23), .sc (.bool x0_24)]⟩)]) (m1' := []) (m2' := []) (v' := .c (.sc (.int .i64 t24.1))) (Sto.mapN_killNil _ _) (mrgL_whole (new' := [.ref (.arg 1) [] o1 l0_0.length, .sc (.int .i64 t24.2.1), .sc (.int .u64 t24.2.2)]) (mrgL_fz (mrgL_nil' _ _ _) rfl (by first | rfl | simp only [reduceCtorEq, Nat.reduceEqDiff, ak]) rfl (by intro R hR hh; cases hR; cases hh.2)) rfl (by rfl) (.inl ⟨rfl, by first | rfl | simp only [reduceCtorEq, Nat.reduceEqDiff, ak, akF, Nat.zero_add, List.append_nil]⟩)) (by rfl) (mapT_killNil _ _) (by rfl) (by rfl) (by first | rfl | simp only [reduceCtorEq, Nat.reduceEqDiff, ak, akF, Nat.zero_add, List.append_nil]) ?_
    simp +decide only [Nat.reduceAdd, Nat.reduceMul, Int.reduceToNat, ak]
    refine hJ23 _ ?_
    obtain ⟨j27, h28, hn⟩ := of_bind h
    refine seq_j (fun st => st = ⟨[(0, .c (.ptr (.arg 0) [] 0)), (2, .c (.sc (.int .i64 x0_0))), (4, .c (.ptr (.tmp 4 0) [] 0)), (7, .c (.ref (.tmp 13 0) [] 0 x0_11.length)), (8, .c (.ptr (.tmp 8 0) [] 0)), (9, .c (.sc (.int .i64 x0_1))), (10, .c (.sc (.int .i64 x0_2))), (11, .c (.sc (.int .i64 j27)))], [(.arg 0, ⟨.box, 0, [.ref (.arg 1) [] o1 l0_0.length, .sc (.int .i64 t24.2.1), .sc (.int .u64 t24.2.2)]⟩), (.arg 1, ⟨.fz, 1, cs1⟩), (.tmp 4 0, ⟨.box, 0, [.sc (.int .u32 x0_5), .sc (.int .i64 x0_6), .sc (.int .i64 x0_7), .sc (.int .i64 x0_8), .sc (.int .i64 x0_9), .sc (.int .i64 x0_10)]⟩), (.tmp 13 0, ⟨.lst, 3, encL c63 x0_11⟩), (.tmp 8 0, ⟨.box, 0, [.sc (.int .u32 x0_12), .sc (.int .i64 x0_13), .sc (.int .i64 x0_14), .sc (.int .i64 x0_15), .sc (.int .i64 x0_16), .sc (.int .i64 x0_17), .own 1 x0_18.length (encL c_i64 x0_18), .sc (.int .i64 x0_19), .sc (.int .i64 x0_20), .sc (.int .i64 x0_21), .sc (.int .i64 x0_22), .sc (.int .i64 x0_23), .sc (.bool x0_24)]⟩)], [], []⟩) (fun J29 hJ29 => ?_) ?_
    · replace h := h28; clear hn
      refine ga_k fun G30 G30n G30r G30x => ?_
      refine sr_k fun J31 hJ31 => ?_
      simp +decide only [Nat.reduceAdd, Nat.reduceMul, Int.reduceToNat, ak]
      refine hJ31 _ ?_
      refine cond_k (b := decide (x0_1 = 1)) rfl (fun c32 => ?_) (fun c32 => ?_)
      · replace c32 := of_decide_eq_true c32; rw [if_pos c32] at h
        refine reg_k ?_
        simp +decide only [Nat.reduceAdd, Nat.reduceMul, Int.reduceToNat, ak, ne_lit]
        obtain rfl := Option.some.inj h
        refine G30n _ _ (wk [0, 2, 4, 7, 8, 9, 10, 11] [pI (.arg 0) .box, pI (.arg 1) .fz, pI (.tmp 4 0) .box, pI (.tmp 13 0) .lst, pI (.tmp 8 0) .box]) (hJ29 _ rfl)
      · replace c32 := of_decide_eq_false c32; rw [if_neg c32] at h
        obtain rfl := Option.some.inj h
        refine G30n _ _ (wk [0, 2, 4, 7, 8, 9, 10, 11] [pI (.arg 0) .box, pI (.arg 1) .fz, pI (.tmp 4 0) .box, pI (.tmp 13 0) .lst, pI (.tmp 8 0) .box]) (hJ29 _ rfl)
    · replace h := hn; clear hn h28
      rintro _ rfl
      refine sr_k fun J33 hJ33 => ?_
      simp +decide only [Nat.reduceAdd, Nat.reduceMul, Int.reduceToNat, ak]
      refine hJ33 _ ?_
      obtain ⟨j34, h35, hn⟩ := of_bind h
      refine seq_j (fun st => st = ⟨[(0, .c (.ptr (.arg 0) [] 0)), (2, .c (.sc (.int .i64 x0_0))), (4, .c (.ptr (.tmp 4 0) [] 0)), (7, .c (.ref (.tmp 13 0) [] 0 x0_11.length)), (8, .c (.ptr (.tmp 8 0) [] 0)), (9, .c (.sc (.int .i64 x0_1))), (10, .c (.sc (.int .i64 x0_2))), (12, .c (.ptr (.tmp 12 0) [] 0))], [(.arg 0, ⟨.box, 0, [.ref (.arg 1) [] o1 l0_0.length, .sc (.int .i64 j34.1), .sc (.int .u64 j34.2.1)]⟩), (.arg 1, ⟨.fz, 1, cs1⟩), (.tmp 4 0, ⟨.box, 0, [.sc (.int .u32 x0_5), .sc (.int .i64 x0_6), .sc (.int .i64 x0_7), .sc (.int .i64 x0_8), .sc (.int .i64 x0_9), .sc (.int .i64 x0_10)]⟩), (.tmp 13 0, ⟨.lst, 3, encL c63 x0_11⟩), (.tmp 8 0, ⟨.box, 0, [.sc (.int .u32 x0_12), .sc (.int .i64 x0_13), .sc (.int .i64 x0_14), .sc (.int .i64 x0_15), .sc (.int .i64 x0_16), .sc (.int .i64 x0_17), .own 1 x0_18.length (encL c_i64 x0_18), .sc (.int .i64 x0_19), .sc (.int .i64 x0_20), .sc (.int .i64 x0_21), .sc (.int .i64 x0_22), .sc (.int .i64 x0_23), .sc (.bool x0_24)]⟩), (.tmp 12 0, ⟨.box, 0, [.sc (.int .i64 j34.2.2.1), .sc (.int .i64 j34.2.2.2.1), .sc (.int .u32 j34.2.2.2.2)]⟩)], [], []⟩) (fun J36 hJ36 => ?_) ?_
      · replace h := h35; clear hn
        refine ga_k fun G37 G37n G37r G37x => ?_
        obtain ⟨j38, h39, hn⟩ := of_bind h
        refine seq_j (fun st => st = ⟨[(0, .c (.ptr (.arg 0) [] 0)), (2, .c (.sc (.int .i64 x0_0))), (4, .c (.ptr (.tmp 4 0) [] 0)), (7, .c (.ref (.tmp 13 0) [] 0 x0_11.length)), (8, .c (.ptr (.tmp 8 0) [] 0)), (9, .c (.sc (.int .i64 x0_1))), (10, .c (.sc (.int .i64 x0_2))), (11, .c (.sc (.int .i64 j27))), (12, .c (.ptr (.tmp 12 0) [] 0)), (39, .c (.sc (.bool j38)))], [(.arg 0, ⟨.box, 0, [.ref (.arg 1) [] o1 l0_0.length, .sc (.int .i64 t24.2.1), .sc (.int .u64 t24.2.2)]⟩), (.arg 1, ⟨.fz, 1, cs1⟩), (.tmp 4 0, ⟨.box, 0, [.sc (.int .u32 x0_5), .sc (.int .i64 x0_6), .sc (.int .i64 x0_7), .sc (.int .i64 x0_8), .sc (.int .i64 x0_9), .sc (.int .i64 x0_10)]⟩), (.tmp 13 0, ⟨.lst, 3, encL c63 x0_11⟩), (.tmp 8 0, ⟨.box, 0, [.sc (.int .u32 x0_12), .sc (.int .i64 x0_13), .sc (.int .i64 x0_14), .sc (.int .i64 x0_15), .sc (.int .i64 x0_16), .sc (.int .i64 x0_17), .own 1 x0_18.length (encL c_i64 x0_18), .sc (.int .i64 x0_19), .sc (.int .i64 x0_20), .sc (.int .i64 x0_21), .sc (.int .i64 x0_22), .sc (.int .i64 x0_23), .sc (.bool x0_24)]⟩), (.tmp 12 0, ⟨.box, 0, [.sc (.int .i64 1), .sc (.int .i64 (IntKind.i64.wrap (x0_2 + 10))), .sc (.int .u32 0)]⟩)], [], []⟩) (fun J40 hJ40 => ?_) ?_
        · replace h := h39; clear hn
          refine ga_k fun G41 G41n G41r G41x => ?_
          refine reg_k ?_
          simp +decide only [Nat.reduceAdd, Nat.reduceMul, Int.reduceToNat, ak]
          by_cases c42 : j27 ≥ 45
          · rw [if_pos c42] at h
            have e43 : decide (j27 ≥ 45) = true := decide_eq_true c42
            simp +decide only [Nat.reduceAdd, Nat.reduceMul, Int.reduceToNat, ak, e43]
            obtain rfl := Option.some.inj h
            refine G41n _ _ (wk [0, 2, 4, 7, 8, 9, 10, 11, 12, 39] [pI (.arg 0) .box, pI (.arg 1) .fz, pI (.tmp 4 0) .box, pI (.tmp 13 0) .lst, pI (.tmp 8 0) .box, pI (.tmp 12 0) .box] (h0 := by first | rfl | simp +decide only [ak, akF, e43]) (h := by first | rfl | (simp +decide only [ak, akF, e43]; done) | (simp +decide [ak, akF, e43] <;> omega))) (hJ40 _ rfl)
          · rw [if_neg c42] at h
            have e44 : decide (j27 ≥ 45) = false := decide_eq_false c42
            simp +decide only [Nat.reduceAdd, Nat.reduceMul, Int.reduceToNat, ak, e44]
            obtain rfl := Option.some.inj h
            refine G41n _ _ (wk [0, 2, 4, 7, 8, 9, 10, 11, 12, 39] [pI (.arg 0) .box, pI (.arg 1) .fz, pI (.tmp 4 0) .box, pI (.tmp 13 0) .lst, pI (.tmp 8 0) .box, pI (.tmp 12 0) .box] (h0 := by first | rfl | simp +decide only [ak, akF, e44]) (h := by first | rfl | (simp +decide only [ak, akF, e44]; done) | (simp +decide [ak, akF, e44] <;> omega))) (hJ40 _ rfl)
        · replace h := hn; clear hn h39
          rintro _ rfl
          refine cond_k (b := j38) rfl (fun c45 => ?_) (fun c45 => ?_)
          · rw [if_pos c45] at h
            refine sd_k fun J46 hJ46 => ?_
            simp +decide only [Nat.reduceAdd, Nat.reduceMul, Int.reduceToNat, ak]
            obtain ⟨t47, h48, h⟩ := of_bind h
            obtain ⟨t50, h51, h⟩ := of_bind h
            refine alt_e ?_
            · simp +decide only [Nat.reduceAdd, Nat.reduceMul, Int.reduceToNat, ak]
              refine call_m [(.arg 0, ⟨(.tmp 8 0), [], none, .box⟩)] (s0 := [(.arg 0, ⟨.box, 0, [.sc (.int .u32 x0_12), .sc (.int .i64 x0_13), .sc (.int .i64 x0_14), .sc (.int .i64 x0_15), .sc (.int .i64 x0_16), .sc (.int .i64 x0_17), .own 1 x0_18.length (encL c_i64 x0_18), .sc (.int .i64 x0_19), .sc (.int .i64 x0_20), .sc (.int .i64 x0_21), .sc (.int .i64 x0_22), .sc (.int .i64 x0_23), .sc (.bool x0_24)]⟩)]) (by intro t ht; cases ht; decide) rfl rfl (by first | rfl | simp only [reduceCtorEq, Nat.reduceEqDiff, ak, akF]) (spec_l4Out.tri x0_12 x0_13 x0_14 x0_15 x0_16 x0_17 x0_18 x0_19 x0_20 x0_21 x0_22 x0_23 x0_24 _ h48) (by first | rfl | simp only [reduceCtorEq, Nat.reduceEqDiff, ak, akF]) (by simp [bkOk2, memK]) (fun hl53 => ?_)
              refine call_st (s4 := [(.arg 0, ⟨.box, 0, [.ref (.arg 1) [] o1 l0_0.length, .sc (.int .i64 t24.2.1), .sc (.int .u64 t24.2.2)]⟩), (.arg 1, ⟨.fz, 1, cs1⟩), (.tmp 4 0, ⟨.box, 0, [.sc (.int .u32 x0_5), .sc (.int .i64 x0_6), .sc (.int .i64 x0_7), .sc (.int .i64 x0_8), .sc (.int .i64 x0_9), .sc (.int .i64 x0_10)]⟩), (.tmp 13 0, ⟨.lst, 3, encL c63 x0_11⟩), (.tmp 8 0, ⟨.box, 0, [.sc (.int .u32 x0_12), .sc (.int .i64 x0_13), .sc (.int .i64 x0_14), .sc (.int .i64 x0_15), .sc (.int .i64 x0_16), .sc (.int .i64 x0_17), .own 1 x0_18.length (encL c_i64 x0_18), .sc (.int .i64 x0_19), .sc (.int .i64 x0_20), .sc (.int .i64 x0_21), .sc (.int .i64 x0_22), .sc (.int .i64 x0_23), .sc (.bool x0_24)]⟩), (.tmp 12 0, ⟨.box, 0, [.sc (.int .i64 1), .sc (.int .i64 (IntKind.i64.wrap (x0_2 + 10))), .sc (.int .u32 0)]⟩)]) (m1' := []) (m2' := []) (v' := .c (.sc (.int .i64 t47))) (Sto.mapN_killNil _ _) (mrgL_whole (new' := [.sc (.int .u32 x0_12), .sc (.int .i64 x0_13), .sc (.int .i64 x0_14), .sc (.int .i64 x0_15), .sc (.int .i64 x0_16), .sc (.int .i64 x0_17), .own 1 x0_18.length (encL c_i64 x0_18), .sc (.int .i64 x0_19), .sc (.int .i64 x0_20), .sc (.int .i64 x0_21), .sc (.int .i64 x0_22), .sc (.int .i64 x0_23), .sc (.bool x0_24)]) (mrgL_nil' _ _ _) rfl (by rfl) (.inl ⟨rfl, by first | rfl | simp only [reduceCtorEq, Nat.reduceEqDiff, ak, akF, Nat.zero_add, List.append_nil]⟩)) (by rfl) (mapT_killNil _ _) (by rfl) (by rfl) (by first | rfl | simp only [reduceCtorEq, Nat.reduceEqDiff, ak, akF, Nat.zero_add, List.append_nil]) ?_
              simp +decide only [Nat.reduceAdd, Nat.reduceMul, Int.reduceToNat, ak]
              refine alt_e ?_
              · simp +decide only [Nat.reduceAdd, Nat.reduceMul, Int.reduceToNat, ak]
                refine call_m [(.arg 0, ⟨(.arg 0), [], none, .box⟩), (.arg 1, ⟨(.arg 1), [], none, .fz⟩)] (s0 := [(.arg 0, ⟨.box, 0, [.ref (.arg 1) [] o1 l0_0.length, .sc (.int .i64 t24.2.1), .sc (.int .u64 t24.2.2)]⟩), (.arg 1, ⟨.fz, 1, cs1⟩)]) (by intro t ht; cases ht; decide) rfl rfl (by first | rfl | simp only [reduceCtorEq, Nat.reduceEqDiff, ak, akF]) (spec_l1Next.tri (cs1) o1 l0_0 hv1 t24.2.1 t24.2.2 (IntKind.i64.wrap (t47 + 1)) _ h51) (by first | rfl | simp only [reduceCtorEq, Nat.reduceEqDiff, ak, akF]) (by simp [bkOk2, memK]) (fun hl55 => ?_)
                refine call_st (s4 := [(.arg 0, ⟨.box, 0, [.ref (.arg 1) [] o1 l0_0.length, .sc (.int .i64 t50.2.1), .sc (.int .u64 t50.2.2)]⟩), (.arg 1, ⟨.fz, 1, cs1⟩), (.tmp 4 0, ⟨.box, 0, [.sc (.int .u32 x0_5), .sc (.int .i64 x0_6), .sc (.int .i64 x0_7), .sc (.int .i64 x0_8), .sc (.int .i64 x0_9), .sc (.int .i64 x0_10)]⟩), (.tmp 13 0, ⟨.lst, 3, encL c63 x0_11⟩), (.tmp 8 0, ⟨.box, 0, [.sc (.int .u32 x0_12), .sc (.int .i64 x0_13), .sc (.int .i64 x0_14), .sc (.int .i64 x0_15), .sc (.int .i64 x0_16), .sc (.int .i64 x0_17), .own 1 x0_18.length (encL c_i64 x0_18), .sc (.int .i64 x0_19), .sc (.int .i64 x0_20), .sc (.int .i64 x0_21), .sc (.int .i64 x0_22), .sc (.int .i64 x0_23), .sc (.bool x0_24)]⟩), (.tmp 12 0, ⟨.box, 0, [.sc (.int .i64 1), .sc (.int .i64 (IntKind.i64.wrap (x0_2 + 10))), .sc (.int .u32 0)]⟩)]) (m1' := []) (m2' := []) (v' := .c (.sc (.int .i64 t50.1))) (Sto.mapN_killNil _ _) (mrgL_whole (new' := [.ref (.arg 1) [] o1 l0_0.length, .sc (.int .i64 t50.2.1), .sc (.int .u64 t50.2.2)]) (mrgL_fz (mrgL_nil' _ _ _) rfl (by first | rfl | simp only [reduceCtorEq, Nat.reduceEqDiff, ak]) rfl (by intro R hR hh; cases hR; cases hh.2)) rfl (by rfl) (.inl ⟨rfl, by first | rfl | simp only [reduceCtorEq, Nat.reduceEqDiff, ak, akF, Nat.zero_add, List.append_nil]⟩)) (by rfl) (mapT_killNil _ _) (by rfl) (by rfl) (by first | rfl | simp only [reduceCtorEq, Nat.reduceEqDiff, ak, akF, Nat.zero_add, List.append_nil]) ?_
                simp +decide only [Nat.reduceAdd, Nat.reduceMul, Int.reduceToNat, ak]
                refine alt_e ?_
                · simp +decide only [Nat.reduceAdd, Nat.reduceMul, Int.reduceToNat, ak]
                  refine hJ46 _ ?_
                  refine sr_k fun J57 hJ57 => ?_
                  simp +decide only [Nat.reduceAdd, Nat.reduceMul, Int.reduceToNat, ak]
                  obtain ⟨t58, h59, h⟩ := of_bind h
                  refine call_m [(.arg 0, ⟨(.arg 0), [], none, .box⟩), (.arg 1, ⟨(.arg 1), [], none, .fz⟩)] (s0 := [(.arg 0, ⟨.box, 0, [.ref (.arg 1) [] o1 l0_0.length, .sc (.int .i64 t50.2.1), .sc (.int .u64 t50.2.2)]⟩), (.arg 1, ⟨.fz, 1, cs1⟩)]) (by intro t ht; cases ht; decide) rfl rfl (by first | rfl | simp only [reduceCtorEq, Nat.reduceEqDiff, ak, akF]) (spec_l1Next.tri (cs1) o1 l0_0 hv1 t50.2.1 t50.2.2 4 _ h59) (by first | rfl | simp only [reduceCtorEq, Nat.reduceEqDiff, ak, akF]) (by simp [bkOk2, memK]) (fun hl59 => ?_)
                  refine call_st (s4 := [(.arg 0, ⟨.box, 0, [.ref (.arg 1) [] o1 l0_0.length, .sc (.int .i64 t58.2.1), .sc (.int .u64 t58.2.2)]⟩), (.arg 1, ⟨.fz, 1, cs1⟩), (.tmp 4 0, ⟨.box, 0, [.sc (.int .u32 x0_5), .sc (.int .i64 x0_6), .sc (.int .i64 x0_7), .sc (.int .i64 x0_8), .sc (.int .i64 x0_9), .sc (.int .i64 x0_10)]⟩), (.tmp 13 0, ⟨.lst, 3, encL c63 x0_11⟩), (.tmp 8 0, ⟨.box, 0, [.sc (.int .u32 x0_12), .sc (.int .i64 x0_13), .sc (.int .i64 x0_14), .sc (.int .i64 x0_15), .sc (.int .i64 x0_16), .sc (.int .i64 x0_17), .own 1 x0_18.length (encL c_i64 x0_18), .sc (.int .i64 x0_19), .sc (.int .i64 x0_20), .sc (.int .i64 x0_21), .sc (.int .i64 x0_22), .sc (.int .i64 x0_23), .sc (.bool x0_24)]⟩), (.tmp 12 0, ⟨.box, 0, [.sc (.int .i64 2), .sc (.int .i64 0), .sc (.int .u32 (IntKind.u32.wrap ((IntKind.u32.wrap (x0_5 + (IntKind.u32.wrap x0_19))) + (IntKind.u32.wrap t50.1))))]⟩)]) (m1' := []) (m2' := []) (v' := .c (.sc (.int .i64 t58.1))) (Sto.mapN_killNil _ _) (mrgL_whole (new' := [.ref (.arg 1) [] o1 l0_0.length, .sc (.int .i64 t58.2.1), .sc (.int .u64 t58.2.2)]) (mrgL_fz (mrgL_nil' _ _ _) rfl (by first | rfl | simp only [reduceCtorEq, Nat.reduceEqDiff, ak]) rfl (by intro R hR hh; cases hR; cases hh.2)) rfl (by rfl) (.inl ⟨rfl, by first | rfl | simp only [reduceCtorEq, Nat.reduceEqDiff, ak, akF, Nat.zero_add, List.append_nil]⟩)) (by rfl) (mapT_killNil _ _) (by rfl) (by rfl) (by first | rfl | simp only [reduceCtorEq, Nat.reduceEqDiff, ak, akF, Nat.zero_add, List.append_nil]) ?_
                  simp +decide only [Nat.reduceAdd, Nat.reduceMul, Int.reduceToNat, ak]
                  refine hJ57 _ ?_
                  refine cond_k (b := decide (t58.1 = 0)) rfl (fun c61 => ?_) (fun c61 => ?_)
                  · replace c61 := of_decide_eq_true c61; rw [if_pos c61] at h
                    refine regD_k ?_
                    simp +decide only [Nat.reduceAdd, Nat.reduceMul, Int.reduceToNat, ak]
                    obtain ⟨t62, h63, h⟩ := of_bind h
                    refine alt_e ?_
                    · simp +decide only [Nat.reduceAdd, Nat.reduceMul, Int.reduceToNat, ak]
                      refine call_m [(.arg 0, ⟨(.arg 0), [], none, .box⟩), (.arg 1, ⟨(.arg 1), [], none, .fz⟩)] (s0 := [(.arg 0, ⟨.box, 0, [.ref (.arg 1) [] o1 l0_0.length, .sc (.int .i64 t58.2.1), .sc (.int .u64 t58.2.2)]⟩), (.arg 1, ⟨.fz, 1, cs1⟩)]) (by intro t ht; cases ht; decide) rfl rfl (by first | rfl | simp only [reduceCtorEq, Nat.reduceEqDiff, ak, akF]) (spec_l1Next.tri (cs1) o1 l0_0 hv1 t58.2.1 t58.2.2 8 _ h63) (by first | rfl | simp only [reduceCtorEq, Nat.reduceEqDiff, ak, akF]) (by simp [bkOk2, memK]) (fun hl64 => ?_)
                      refine call_st (s4 := [(.arg 0, ⟨.box, 0, [.ref (.arg 1) [] o1 l0_0.length, .sc (.int .i64 t62.2.1), .sc (.int .u64 t62.2.2)]⟩), (.arg 1, ⟨.fz, 1, cs1⟩), (.tmp 4 0, ⟨.box, 0, [.sc (.int .u32 x0_5), .sc (.int .i64 x0_6), .sc (.int .i64 x0_7), .sc (.int .i64 x0_8), .sc (.int .i64 x0_9), .sc (.int .i64 x0_10)]⟩), (.tmp 13 0, ⟨.lst, 3, encL c63 x0_11⟩), (.tmp 8 0, ⟨.box, 0, [.sc (.int .u32 x0_12), .sc (.int .i64 x0_13), .sc (.int .i64 x0_14), .sc (.int .i64 x0_15), .sc (.int .i64 x0_16), .sc (.int .i64 x0_17), .own 1 x0_18.length (encL c_i64 x0_18), .sc (.int .i64 x0_19), .sc (.int .i64 x0_20), .sc (.int .i64 x0_21), .sc (.int .i64 x0_22), .sc (.int .i64 x0_23), .sc (.bool x0_24)]⟩), (.tmp 12 0, ⟨.box, 0, [.sc (.int .i64 2), .sc (.int .i64 0), .sc (.int .u32 (IntKind.u32.wrap ((IntKind.u32.wrap (x0_5 + (IntKind.u32.wrap x0_19))) + (IntKind.u32.wrap t50.1))))]⟩)]) (m1' := []) (m2' := []) (v' := .c (.sc (.int .i64 t62.1))) (Sto.mapN_killNil _ _) (mrgL_whole (new' := [.ref (.arg 1) [] o1 l0_0.length, .sc (.int .i64 t62.2.1), .sc (.int .u64 t62.2.2)]) (mrgL_fz (mrgL_nil' _ _ _) rfl (by first | rfl | simp only [reduceCtorEq, Nat.reduceEqDiff, ak]) rfl (by intro R hR hh; cases hR; cases hh.2)) rfl (by rfl) (.inl ⟨rfl, by first | rfl | simp only [reduceCtorEq, Nat.reduceEqDiff, ak, akF, Nat.zero_add, List.append_nil]⟩)) (by rfl) (mapT_killNil _ _) (by rfl) (by rfl) (by first | rfl | simp only [reduceCtorEq, Nat.reduceEqDiff, ak, akF, Nat.zero_add, List.append_nil]) ?_
                      simp +decide only [Nat.reduceAdd, Nat.reduceMul, Int.reduceToNat, ak]
                      refine alt_e ?_
                      · simp +decide only [Nat.reduceAdd, Nat.reduceMul, Int.reduceToNat, ak]
                        obtain rfl := Option.some.inj h
                        refine G37n _ _ (wk [0, 2, 4, 7, 8, 9, 10, 12] [pI (.arg 0) .box, pI (.arg 1) .fz, pI (.tmp 4 0) .box, pI (.tmp 13 0) .lst, pI (.tmp 8 0) .box, pI (.tmp 12 0) .box]) (hJ36 _ rfl)
                  · replace c61 := of_decide_eq_false c61; rw [if_neg c61] at h
                    obtain rfl := Option.some.inj h
                    refine G37n _ _ (wk [0, 2, 4, 7, 8, 9, 10, 12] [pI (.arg 0) .box, pI (.arg 1) .fz, pI (.tmp 4 0) .box, pI (.tmp 13 0) .lst, pI (.tmp 8 0) .box, pI (.tmp 12 0) .box]) (hJ36 _ rfl)
          · rw [if_neg (Bool.eq_false_iff.1 c45)] at h
            refine sr_k fun J66 hJ66 => ?_
            simp +decide only [Nat.reduceAdd, Nat.reduceMul, Int.reduceToNat, ak]
            refine hJ66 _ ?_
            refine cond_k (b := decide (j27 ≥ 60)) rfl (fun c67 => ?_) (fun c67 => ?_)
            · replace c67 := of_decide_eq_true c67; rw [if_pos c67] at h
              refine reg_k ?_
              simp +decide only [Nat.reduceAdd, Nat.reduceMul, Int.reduceToNat, ak]
              obtain rfl := Option.some.inj h
              refine G37n _ _ (wk [0, 2, 4, 7, 8, 9, 10, 12] [pI (.arg 0) .box, pI (.arg 1) .fz, pI (.tmp 4 0) .box, pI (.tmp 13 0) .lst, pI (.tmp 8 0) .box, pI (.tmp 12 0) .box]) (hJ36 _ rfl)
            · replace c67 := of_decide_eq_false c67; rw [if_neg c67] at h
              obtain rfl := Option.some.inj h
              refine G37n _ _ (wk [0, 2, 4, 7, 8, 9, 10, 12] [pI (.arg 0) .box, pI (.arg 1) .fz, pI (.tmp 4 0) .box, pI (.tmp 13 0) .lst, pI (.tmp 8 0) .box, pI (.tmp 12 0) .box]) (hJ36 _ rfl)
      · replace h := hn; clear hn h35
        rintro _ rfl
        obtain ⟨j68, h69, hn⟩ := of_bind h
        refine seq_j (fun st => st = ⟨[(0, .c (.ptr (.arg 0) [] 0)), (2, .c (.sc (.int .i64 x0_0))), (4, .c (.ptr (.tmp 4 0) [] 0)), (7, .c (.ref (.tmp 13 0) [] 0 x0_11.length)), (8, .c (.ptr (.tmp 8 0) [] 0)), (9, .c (.sc (.int .i64 x0_1))), (10, .c (.sc (.int .i64 x0_2))), (12, .c (.ptr (.tmp 12 0) [] 0))], [(.arg 0, ⟨.box, 0, [.ref (.arg 1) [] o1 l0_0.length, .sc (.int .i64 j68.1), .sc (.int .u64 j68.2.1)]⟩), (.arg 1, ⟨.fz, 1, cs1⟩), (.tmp 4 0, ⟨.box, 0, [.sc (.int .u32 x0_5), .sc (.int .i64 x0_6), .sc (.int .i64 x0_7), .sc (.int .i64 x0_8), .sc (.int .i64 x0_9), .sc (.int .i64 x0_10)]⟩), (.tmp 13 0, ⟨.lst, 3, encL c63 x0_11⟩), (.tmp 8 0, ⟨.box, 0, [.sc (.int .u32 x0_12), .sc (.int .i64 x0_13), .sc (.int .i64 x0_14), .sc (.int .i64 x0_15), .sc (.int .i64 x0_16), .sc (.int .i64 x0_17), .own 1 x0_18.length (encL c_i64 x0_18), .sc (.int .i64 x0_19), .sc (.int .i64 x0_20), .sc (.int .i64 x0_21), .sc (.int .i64 x0_22), .sc (.int .i64 x0_23), .sc (.bool x0_24)]⟩), (.tmp 12 0, ⟨.box, 0, [.sc (.int .i64 j68.2.2), .sc (.int .i64 j34.2.2.2.1), .sc (.int .u32 j34.2.2.2.2)]⟩)], [], []⟩) (fun J70 hJ70 => ?_) ?_
        · replace h := h69; clear hn
          refine ga_k fun G71 G71n G71r G71x => ?_
          refine sr_k fun J72 hJ72 => ?_
          simp +decide only [Nat.reduceAdd, Nat.reduceMul, Int.reduceToNat, ak]
          obtain ⟨t73, h74, h⟩ := of_bind h
          refine call_m [(.arg 0, ⟨(.arg 0), [], none, .box⟩), (.arg 1, ⟨(.arg 1), [], none, .fz⟩)] (s0 := [(.arg 0, ⟨.box, 0, [.ref (.arg 1) [] o1 l0_0.length, .sc (.int .i64 j34.1), .sc (.int .u64 j34.2.1)]⟩), (.arg 1, ⟨.fz, 1, cs1⟩)]) (by intro t ht; cases ht; decide) rfl rfl (by first | rfl | simp only [reduceCtorEq, Nat.reduceEqDiff, ak, akF]) (spec_l1Next.tri (cs1) o1 l0_0 hv1 j34.1 j34.2.1 60 _ h74) (by first | rfl | simp only [reduceCtorEq, Nat.reduceEqDiff, ak, akF]) (by simp [bkOk2, memK]) (fun hl74 => ?_)
          refine call_st (s4 := [(.arg 0, ⟨.box, 0, [.ref (.arg 1) [] o1 l0_0.length, .sc (.int .i64 t73.2.1), .sc (.int .u64 t73.2.2)]⟩), (.arg 1, ⟨.fz, 1, cs1⟩), (.tmp 4 0, ⟨.box, 0, [.sc (.int .u32 x0_5), .sc (.int .i64 x0_6), .sc (.int .i64 x0_7), .sc (.int .i64 x0_8), .sc (.int .i64 x0_9), .sc (.int .i64 x0_10)]⟩), (.tmp 13 0, ⟨.lst, 3, encL c63 x0_11⟩), (.tmp 8 0, ⟨.box, 0, [.sc (.int .u32 x0_12), .sc (.int .i64 x0_13), .sc (.int .i64 x0_14), .sc (.int .i64 x0_15), .sc (.int .i64 x0_16), .sc (.int .i64 x0_17), .own 1 x0_18.length (encL c_i64 x0_18), .sc (.int .i64 x0_19), .sc (.int .i64 x0_20), .sc (.int .i64 x0_21), .sc (.int .i64 x0_22), .sc (.int .i64 x0_23), .sc (.bool x0_24)]⟩), (.tmp 12 0, ⟨.box, 0, [.sc (.int .i64 j34.2.2.1), .sc (.int .i64 j34.2.2.2.1), .sc (.int .u32 j34.2.2.2.2)]⟩)]) (m1' := []) (m2' := []) (v' := .c (.sc (.int .i64 t73.1))) (Sto.mapN_killNil _ _) (mrgL_whole (new' := [.ref (.arg 1) [] o1 l0_0.length, .sc (.int .i64 t73.2.1), .sc (.int .u64 t73.2.2)]) (mrgL_fz (mrgL_nil' _ _ _) rfl (by first | rfl | simp only [reduceCtorEq, Nat.reduceEqDiff, ak]) rfl (by intro R hR hh; cases hR; cases hh.2)) rfl (by rfl) (.inl ⟨rfl, by first | rfl | simp only [reduceCtorEq, Nat.reduceEqDiff, ak, akF, Nat.zero_add, List.append_nil]⟩)) (by rfl) (mapT_killNil _ _) (by rfl) (by rfl) (by first | rfl | simp only [reduceCtorEq, Nat.reduceEqDiff, ak, akF, Nat.zero_add, List.append_nil]) ?_
          simp +decide only [Nat.reduceAdd, Nat.reduceMul, Int.reduceToNat, ak]
          refine hJ72 _ ?_
          refine cond_k (b := decide (t73.1 = 0)) rfl (fun c76 => ?_) (fun c76 => ?_)
          · replace c76 := of_decide_eq_true c76; rw [if_pos c76] at h
            refine reg_k ?_
            simp +decide only [Nat.reduceAdd, Nat.reduceMul, Int.reduceToNat, ak]
            obtain ⟨t77, h78, h⟩ := of_bind h
            refine call_m [(.arg 0, ⟨(.arg 0), [], none, .box⟩), (.arg 1, ⟨(.arg 1), [], none, .fz⟩)] (s0 := [(.arg 0, ⟨.box, 0, [.ref (.arg 1) [] o1 l0_0.length, .sc (.int .i64 t73.2.1), .sc (.int .u64 t73.2.2)]⟩), (.arg 1, ⟨.fz, 1, cs1⟩)]) (by intro t ht; cases ht; decide) rfl rfl (by first | rfl | simp only [reduceCtorEq, Nat.reduceEqDiff, ak, akF]) (spec_l1Next.tri (cs1) o1 l0_0 hv1 t73.2.1 t73.2.2 2 _ h78) (by first | rfl | simp only [reduceCtorEq, Nat.reduceEqDiff, ak, akF]) (by simp [bkOk2, memK]) (fun hl78 => ?_)
            refine call_st (s4 := [(.arg 0, ⟨.box, 0, [.ref (.arg 1) [] o1 l0_0.length, .sc (.int .i64 t77.2.1), .sc (.int .u64 t77.2.2)]⟩), (.arg 1, ⟨.fz, 1, cs1⟩), (.tmp 4 0, ⟨.box, 0, [.sc (.int .u32 x0_5), .sc (.int .i64 x0_6), .sc (.int .i64 x0_7), .sc (.int .i64 x0_8), .sc (.int .i64 x0_9), .sc (.int .i64 x0_10)]⟩), (.tmp 13 0, ⟨.lst, 3, encL c63 x0_11⟩), (.tmp 8 0, ⟨.box, 0, [.sc (.int .u32 x0_12), .sc (.int .i64 x0_13), .sc (.int .i64 x0_14), .sc (.int .i64 x0_15), .sc (.int .i64 x0_16), .sc (.int .i64 x0_17), .own 1 x0_18.length (encL c_i64 x0_18), .sc (.int .i64 x0_19), .sc (.int .i64 x0_20), .sc (.int .i64 x0_21), .sc (.int .i64 x0_22), .sc (.int .i64 x0_23), .sc (.bool x0_24)]⟩), (.tmp 12 0, ⟨.box, 0, [.sc (.int .i64 j34.2.2.1), .sc (.int .i64 j34.2.2.2.1), .sc (.int .u32 j34.2.2.2.2)]⟩)]) (m1' := []) (m2' := []) (v' := .c (.sc (.int .i64 t77.1))) (Sto.mapN_killNil _ _) (mrgL_whole (new' := [.ref (.arg 1) [] o1 l0_0.length, .sc (.int .i64 t77.2.1), .sc (.int .u64 t77.2.2)]) (mrgL_fz (mrgL_nil' _ _ _) rfl (by first | rfl | simp only [reduceCtorEq, Nat.reduceEqDiff, ak]) rfl (by intro R hR hh; cases hR; cases hh.2)) rfl (by rfl) (.inl ⟨rfl, by first | rfl | simp only [reduceCtorEq, Nat.reduceEqDiff, ak, akF, Nat.zero_add, List.append_nil]⟩)) (by rfl) (mapT_killNil _ _) (by rfl) (by rfl) (by first | rfl | simp only [reduceCtorEq, Nat.reduceEqDiff, ak, akF, Nat.zero_add, List.append_nil]) ?_
            simp +decide only [Nat.reduceAdd, Nat.reduceMul, Int.reduceToNat, ak]
            obtain rfl := Option.some.inj h
            refine G71n _ _ (wk [0, 2, 4, 7, 8, 9, 10, 12] [pI (.arg 0) .box, pI (.arg 1) .fz, pI (.tmp 4 0) .box, pI (.tmp 13 0) .lst, pI (.tmp 8 0) .box, pI (.tmp 12 0) .box]) (hJ70 _ rfl)
          · replace c76 := of_decide_eq_false c76; rw [if_neg c76] at h
            obtain rfl := Option.some.inj h
            refine G71n _ _ (wk [0, 2, 4, 7, 8, 9, 10, 12] [pI (.arg 0) .box, pI (.arg 1) .fz, pI (.tmp 4 0) .box, pI (.tmp 13 0) .lst, pI (.tmp 8 0) .box, pI (.tmp 12 0) .box]) (hJ70 _ rfl)
        · replace h := hn; clear hn h69
          rintro _ rfl
          refine sr_k fun J80 hJ80 => ?_
          simp +decide only [Nat.reduceAdd, Nat.reduceMul, Int.reduceToNat, ak]
          obtain ⟨t81, h82, h⟩ := of_bind h
          refine call_m [(.arg 0, ⟨(.tmp 8 0), [], none, .box⟩)] (s0 := [(.arg 0, ⟨.box, 0, [.sc (.int .u32 x0_12), .sc (.int .i64 x0_13), .sc (.int .i64 x0_14), .sc (.int .i64 x0_15), .sc (.int .i64 x0_16), .sc (.int .i64 x0_17), .own 1 x0_18.length (encL c_i64 x0_18), .sc (.int .i64 x0_19), .sc (.int .i64 x0_20), .sc (.int .i64 x0_21), .sc (.int .i64 x0_22), .sc (.int .i64 x0_23), .sc (.bool x0_24)]⟩)]) (by intro t ht; cases ht; decide) rfl rfl (by first | rfl | simp only [reduceCtorEq, Nat.reduceEqDiff, ak, akF]) (spec_l4Step.tri x0_12 x0_13 x0_14 x0_15 x0_16 x0_17 x0_18 x0_19 x0_20 x0_21 x0_22 x0_23 x0_24 j68.2.2 j34.2.2.2.1 j34.2.2.2.2 _ h82) (by first | rfl | simp only [reduceCtorEq, Nat.reduceEqDiff, ak, akF]) (by simp [bkOk2, memK]) (fun hl82 => ?_)
          refine call_st (s2 := [(.arg 0, ⟨.box, 0, [.ref (.arg 1) [] o1 l0_0.length, .sc (.int .i64 j68.1), .sc (.int .u64 j68.2.1)]⟩), (.arg 1, ⟨.fz, 1, cs1⟩), (.tmp 4 0, ⟨.box, 0, [.sc (.int .u32 x0_5), .sc (.int .i64 x0_6), .sc (.int .i64 x0_7), .sc (.int .i64 x0_8), .sc (.int .i64 x0_9), .sc (.int .i64 x0_10)]⟩), (.tmp 13 0, ⟨.lst, 3, encL c63 x0_11⟩), (.tmp 8 0, ⟨.box, 0, [.sc (.int .u32 x0_12), .sc (.int .i64 x0_13), .sc (.int .i64 x0_14), .sc (.int .i64 x0_15), .sc (.int .i64 x0_16), .sc (.int .i64 x0_17), .own 1 x0_18.length (encL c_i64 x0_18), .sc (.int .i64 x0_19), .sc (.int .i64 x0_20), .sc (.int .i64 x0_21), .sc (.int .i64 x0_22), .sc (.int .i64 x0_23), .sc (.bool x0_24)]⟩), (.tmp 12 0, ⟨.box, 0, [.sc (.int .i64 j68.2.2), .sc (.int .i64 j34.2.2.2.1), .sc (.int .u32 j34.2.2.2.2)]⟩)]) (s4 := [(.arg 0, ⟨.box, 0, [.ref (.arg 1) [] o1 l0_0.length, .sc (.int .i64 j68.1), .sc (.int .u64 j68.2.1)]⟩), (.arg 1, ⟨.fz, 1, cs1⟩), (.tmp 4 0, ⟨.box, 0, [.sc (.int .u32 x0_5), .sc (.int .i64 x0_6), .sc (.int .i64 x0_7), .sc (.int .i64 x0_8), .sc (.int .i64 x0_9), .sc (.int .i64 x0_10)]⟩), (.tmp 13 0, ⟨.lst, 3, encL c63 x0_11⟩), (.tmp 8 0, ⟨.box, 0, [.sc (.int .u32 x0_12), .sc (.int .i64 x0_13), .sc (.int .i64 x0_14), .sc (.int .i64 x0_15), .sc (.int .i64 x0_16), .sc (.int .i64 x0_17), .own 1 t81.2.2.2.2.2.1.length (encL c_i64 t81.2.2.2.2.2.1), .sc (.int .i64 t81.2.2.2.2.2.2.1), .sc (.int .i64 t81.2.2.2.2.2.2.2.1), .sc (.int .i64 t81.2.2.2.2.2.2.2.2.1), .sc (.int .i64 t81.2.2.2.2.2.2.2.2.2.1), .sc (.int .i64 t81.2.2.2.2.2.2.2.2.2.2.1), .sc (.bool t81.2.2.2.2.2.2.2.2.2.2.2)]⟩), (.tmp 12 0, ⟨.box, 0, [.sc (.int .i64 j68.2.2), .sc (.int .i64 j34.2.2.2.1), .sc (.int .u32 j34.2.2.2.2)]⟩), (.tmp 79 1, ⟨.lst, 1, encL c_i64 t81.2.2.1⟩), (.tmp 79 0, ⟨.lst, 3, encL c68 t81.2.1⟩)]) (t' := [(0, .c (.ptr (.arg 0) [] 0)), (2, .c (.sc (.int .i64 x0_0))), (4, .c (.ptr (.tmp 4 0) [] 0)), (7, .c (.ref (.tmp 13 0) [] 0 x0_11.length)), (8, .c (.ptr (.tmp 8 0) [] 0)), (9, .c (.sc (.int .i64 x0_1))), (10, .c (.sc (.int .i64 x0_2))), (12, .c (.ptr (.tmp 12 0) [] 0)), (78, .g [.sc (.int .i64 j68.2.2), .sc (.int .i64 j34.2.2.2.1), .sc (.int .u32 j34.2.2.2.2)])]) (m1' := []) (m2' := []) (v' := .g [.sc (.int .i64 t81.1), .ref (.tmp 79 0) [] 0 t81.2.1.length, .ref (.tmp 79 1) [] 0 t81.2.2.1.length, .sc (.int .i64 t81.2.2.2.1), .sc (.int .i64 t81.2.2.2.2.1)]) (by first | rfl | simp only [reduceCtorEq, Nat.reduceEqDiff, ak, akF, List.contains_nil, List.contains_cons, Nat.reduceBEq]) (mrgL_whole (new' := [.sc (.int .u32 x0_12), .sc (.int .i64 x0_13), .sc (.int .i64 x0_14), .sc (.int .i64 x0_15), .sc (.int .i64 x0_16), .sc (.int .i64 x0_17), .own 1 t81.2.2.2.2.2.1.length (encL c_i64 t81.2.2.2.2.2.1), .sc (.int .i64 t81.2.2.2.2.2.2.1), .sc (.int .i64 t81.2.2.2.2.2.2.2.1), .sc (.int .i64 t81.2.2.2.2.2.2.2.2.1), .sc (.int .i64 t81.2.2.2.2.2.2.2.2.2.1), .sc (.int .i64 t81.2.2.2.2.2.2.2.2.2.2.1), .sc (.bool t81.2.2.2.2.2.2.2.2.2.2.2)]) (mrgL_nil' _ _ _) rfl (by rfl) (.inl ⟨rfl, by first | rfl | simp only [reduceCtorEq, Nat.reduceEqDiff, ak, akF, Nat.zero_add, List.append_nil]⟩)) (by rfl) (by first | rfl | simp only [reduceCtorEq, Nat.reduceEqDiff, ak, akF, List.contains_nil, List.contains_cons, Nat.reduceBEq]) (by rfl) (by rfl) (by first | rfl | simp only [reduceCtorEq, Nat.reduceEqDiff, ak, akF, Nat.zero_add, List.append_nil]) ?_
          simp +decide only [Nat.reduceAdd, Nat.reduceMul, Int.reduceToNat, ak]
          refine hJ80 _ ?_
          refine reg_k ?_
          have g84 : (List.replicate 1 ([.int .i64 0, .int .i64 0, .int .u32 0] : List Value)).flatten = [.int .i64 0, .int .i64 0, .int .u32 0] := rfl
          have g85 : (⟨.lst, 3, [.sc (.int .i64 j68.2.2), .sc (.int .i64 j34.2.2.2.1), .sc (.int .u32 j34.2.2.2.2)]⟩ : Root) = ⟨.lst, 3, encL c63 ([(⟨j68.2.2, j34.2.2.2.1, j34.2.2.2.2⟩ : S63)] : List S63)⟩ := rfl
          have g86 : ([(⟨j68.2.2, j34.2.2.2.1, j34.2.2.2.2⟩ : S63)] : List S63).length = 1 := rfl
          have g87 : (encL c63 ([(⟨j68.2.2, j34.2.2.2.1, j34.2.2.2.2⟩ : S63)] : List S63)).length = 1 * 3 := by simp [encL_length c63_w]
          have g88 : (encL c63 ([(⟨j68.2.2, j34.2.2.2.1, j34.2.2.2.2⟩ : S63)] : List S63)).all nd = true := rfl
          obtain ⟨b89, h⟩ := of_guard h
          have g90 : appLim x0_11.length 1 24 := ⟨b89, by have := b89; omega⟩
          have g91 : (encL c63 x0_11).length = x0_11.length * 3 := by simp [encL_length c63_w]
          have g92 : encL c63 x0_11 ++ encL c63 ([(⟨j68.2.2, j34.2.2.2.1, j34.2.2.2.2⟩ : S63)] : List S63) = encL c63 (x0_11 ++ ([(⟨j68.2.2, j34.2.2.2.1, j34.2.2.2.2⟩ : S63)] : List S63)) := (encL_append _ _).symm
          simp +decide only [Nat.reduceAdd, Nat.reduceMul, Int.reduceToNat, ak, g84, g85, g86, g87, g88, g90, g91, g92]
          refine B22n _ ?_
          refine hJ21 _ ?_
          refine reg_k ?_
          simp +decide only [Nat.reduceAdd, Nat.reduceMul, Int.reduceToNat, ak]
          refine G0n _ _ (wk [0, 2, 4, 7, 8, 9, 10] [pI (.arg 0) .box, pI (.arg 1) .fz, pI (.tmp 4 0) .box, pI (.tmp 13 0) .lst, pI (.tmp 8 0) .box] (h0 := by first | rfl | simp +decide only [ak, akF, b89]) (h := by first | rfl | (simp +decide only [ak, akF, b89]; done) | (simp +decide [ak, akF, b89] <;> omega))) (ih _ _ _ _ _ _ _ _ _ _ _ _ h K hx0)
  · replace c20 := of_decide_eq_false c20; rw [if_neg c20] at h
    obtain rfl := Option.some.inj h
    refine gh_k (wk [7] [pI (.arg 0) .box, pI (.arg 1) .fz, pI (.tmp 13 0) .lst]) ?_
    refine G0x _ _ ?_
    exact hx0
theorem spec_l4DrawEvents.tri (cs1 : List Cell) (o1 : Nat) (l0_0 : List Int) (hv1 : Vw c_u8 1 cs1 o1 l0_0) (a0_1 : Int) (a0_2 : Int) (a1_0 : Int) (a1_1 : Int) (a1_2 : Int) (a1_3 : Int) (a1_4 : Int) (a1_5 : Int) (a2 : Int) (r : (List S63) × Int × Int) (h : spec_l4DrawEvents.f l0_0 a0_1 a0_2 a1_0 a1_1 a1_2 a1_3 a1_4 a1_5 a2 = some r) : Tri Try.prog 85 [.c (.ptr (.arg 0) [] 0), .g [.sc (.int .u32 a1_0), .sc (.int .i64 a1_1), .sc (.int .i64 a1_2), .sc (.int .i64 a1_3), .sc (.int .i64 a1_4), .sc (.int .i64 a1_5)], .c (.sc (.int .i64 a2))] [(.arg 0, ⟨.box, 0, [.ref (.arg 1) [] o1 l0_0.length, .sc (.int .i64 a0_1), .sc (.int .u64 a0_2)]⟩), (.arg 1, ⟨.fz, 1, cs1⟩)] (fun o => o = ⟨.c (.ref (.res 0) [] 0 r.1.length), [(.arg 0, ⟨.box, 0, [.ref (.arg 1) [] o1 l0_0.length, .sc (.int .i64 r.2.1), .sc (.int .u64 r.2.2)]⟩), (.arg 1, ⟨.fz, 1, cs1⟩), (.res 0, ⟨.lst, 3, encL c63 r.1⟩)], [], []⟩) := by
  refine tri_of_body (ac := C85) (xs := r85) Try.func85 (show Try.f85.body = some (Try.f85.body.getD .skip) from rfl) k85 q85 (Nat.le_of_ble_eq_true rfl) ?_
  refine body_of fun K hKn hKr => ?_
  unfold spec_l4DrawEvents.f at h
  unfold C85
  simp only [initT, Nat.reduceAdd]
  refine sr_k fun J1 hJ1 => ?_
  simp +decide only [Nat.reduceAdd, Nat.reduceMul, Int.reduceToNat, ak]
  refine gho_k (Weak.nm' 6 (.tmp 6 20) 3 (encL c63 ([] : List S63)) rfl rfl rfl) ?_
  simp +decide only [Nat.reduceAdd, Nat.reduceMul, Int.reduceToNat, ak]
  refine hJ1 _ ?_
  refine sr_k fun J2 hJ2 => ?_
  have g3 : (List.replicate 0 ([.int .i64 0, .int .i64 0, .int .u32 0] : List Value)).flatten = [] := rfl
  have g4 : (⟨.lst, 3, []⟩ : Root) = ⟨.lst, 3, encL c63 ([] : List S63)⟩ := rfl
  have g5 : ([] : List S63).length = 0 := rfl
  simp +decide only [Nat.reduceAdd, Nat.reduceMul, Int.reduceToNat, ak, g3, g4, g5]
  refine hJ2 _ ?_
  refine sr_k fun J6 hJ6 => ?_
  simp +decide only [Nat.reduceAdd, Nat.reduceMul, Int.reduceToNat, ak]
  obtain ⟨t7, h8, h⟩ := of_bind h
  refine call_m [] (s0 := []) (by intro t ht; cases ht; decide) rfl rfl (by first | rfl | simp only [reduceCtorEq, Nat.reduceEqDiff, ak, akF, g3, g4, g5]) (spec_l4Begin.tri a1_0 a1_1 a1_2 a1_3 a1_4 a1_5 _ h8) (by first | rfl | simp only [reduceCtorEq, Nat.reduceEqDiff, ak, akF]) (by simp [bkOk2, memK]) (fun hl8 => ?_)
  refine call_st (s4 := [(.arg 0, ⟨.box, 0, [.ref (.arg 1) [] o1 l0_0.length, .sc (.int .i64 a0_1), .sc (.int .u64 a0_2)]⟩), (.arg 1, ⟨.fz, 1, cs1⟩), (.tmp 4 0, ⟨.box, 0, [.sc (.int .u32 a1_0), .sc (.int .i64 a1_1), .sc (.int .i64 a1_2), .sc (.int .i64 a1_3), .sc (.int .i64 a1_4), .sc (.int .i64 a1_5)]⟩), (.tmp 6 20, ⟨.lst, 3, encL c63 ([] : List S63)⟩), (.tmp 13 0, ⟨.lst, 3, encL c63 ([] : List S63)⟩), (.tmp 15 0, ⟨.lst, 1, encL c_i64 t7.2.2.2.2.2.2.1⟩)]) (m1' := []) (m2' := []) (v' := .g [.sc (.int .u32 t7.1), .sc (.int .i64 t7.2.1), .sc (.int .i64 t7.2.2.1), .sc (.int .i64 t7.2.2.2.1), .sc (.int .i64 t7.2.2.2.2.1), .sc (.int .i64 t7.2.2.2.2.2.1), .ref (.tmp 15 0) [] 0 t7.2.2.2.2.2.2.1.length, .sc (.int .i64 t7.2.2.2.2.2.2.2.1), .sc (.int .i64 t7.2.2.2.2.2.2.2.2.1), .sc (.int .i64 t7.2.2.2.2.2.2.2.2.2.1), .sc (.int .i64 t7.2.2.2.2.2.2.2.2.2.2.1), .sc (.int .i64 t7.2.2.2.2.2.2.2.2.2.2.2.1), .sc (.bool t7.2.2.2.2.2.2.2.2.2.2.2.2)]) (Sto.mapN_killNil _ _) (mrgL_nil' _ _ _) (by rfl) (mapT_killNil _ _) (by rfl) (by rfl) (by first | rfl | simp only [reduceCtorEq, Nat.reduceEqDiff, ak, akF, Nat.zero_add, List.append_nil]) ?_
  simp +decide only [Nat.reduceAdd, Nat.reduceMul, Int.reduceToNat, ak]
  refine gho_k (Weak.own (.tmp 8 0) (cs' := [.sc (.int .u32 0), .sc (.int .i64 0), .sc (.int .i64 0), .sc (.int .i64 0), .sc (.int .i64 0), .sc (.int .i64 0), .own 1 (([] : List Int).length) (encL c_i64 ([] : List Int)), .sc (.int .i64 0), .sc (.int .i64 0), .sc (.int .i64 0), .sc (.int .i64 0), .sc (.int .i64 0), .sc (.bool false)]) rfl ⟨.inl rfl, .inl rfl, .inl rfl, .inl rfl, .inl rfl, .inl rfl, .inr ⟨rfl, _, rfl⟩, .inl rfl, .inl rfl, .inl rfl, .inl rfl, .inl rfl, .inl rfl, trivial⟩) ?_
  have g10 : (encL c_i64 t7.2.2.2.2.2.2.1).length = t7.2.2.2.2.2.2.1.length * 1 := by simp [encL_length c_i64_w]
  simp +decide only [Nat.reduceAdd, Nat.reduceMul, Int.reduceToNat, ak, g10]
  refine hJ6 _ ?_
  refine sr_k fun J11 hJ11 => ?_
  simp +decide only [Nat.reduceAdd, Nat.reduceMul, Int.reduceToNat, ak]
  obtain ⟨t12, h13, h⟩ := of_bind h
  refine call_m [(.arg 0, ⟨(.arg 0), [], none, .box⟩), (.arg 1, ⟨(.arg 1), [], none, .fz⟩)] (s0 := [(.arg 0, ⟨.box, 0, [.ref (.arg 1) [] o1 l0_0.length, .sc (.int .i64 a0_1), .sc (.int .u64 a0_2)]⟩), (.arg 1, ⟨.fz, 1, cs1⟩)]) (by intro t ht; cases ht; decide) rfl rfl (by first | rfl | simp only [reduceCtorEq, Nat.reduceEqDiff, ak, akF, g3, g4, g5, g10]) (spec_l1Next.tri (cs1) o1 l0_0 hv1 a0_1 a0_2 3 _ h13) (by first | rfl | simp only [reduceCtorEq, Nat.reduceEqDiff, ak, akF]) (by simp [bkOk2, memK]) (fun hl13 => ?_)
  refine call_st (s4 := [(.arg 0, ⟨.box, 0, [.ref (.arg 1) [] o1 l0_0.length, .sc (.int .i64 t12.2.1), .sc (.int .u64 t12.2.2)]⟩), (.arg 1, ⟨.fz, 1, cs1⟩), (.tmp 4 0, ⟨.box, 0, [.sc (.int .u32 a1_0), .sc (.int .i64 a1_1), .sc (.int .i64 a1_2), .sc (.int .i64 a1_3), .sc (.int .i64 a1_4), .sc (.int .i64 a1_5)]⟩), (.tmp 6 20, ⟨.lst, 3, encL c63 ([] : List S63)⟩), (.tmp 13 0, ⟨.lst, 3, encL c63 ([] : List S63)⟩), (.tmp 8 0, ⟨.box, 0, [.sc (.int .u32 t7.1), .sc (.int .i64 t7.2.1), .sc (.int .i64 t7.2.2.1), .sc (.int .i64 t7.2.2.2.1), .sc (.int .i64 t7.2.2.2.2.1), .sc (.int .i64 t7.2.2.2.2.2.1), .own 1 t7.2.2.2.2.2.2.1.length (encL c_i64 t7.2.2.2.2.2.2.1), .sc (.int .i64 t7.2.2.2.2.2.2.2.1), .sc (.int .i64 t7.2.2.2.2.2.2.2.2.1), .sc (.int .i64 t7.2.2.2.2.2.2.2.2.2.1), .sc (.int .i64 t7.2.2.2.2.2.2.2.2.2.2.1), .sc (.int .i64 t7.2.2.2.2.2.2.2.2.2.2.2.1), .sc (.bool t7.2.2.2.2.2.2.2.2.2.2.2.2)]⟩)]) (m1' := []) (m2' := []) (v' := .c (.sc (.int .i64 t12.1))) (Sto.mapN_killNil _ _) (mrgL_whole (new' := [.ref (.arg 1) [] o1 l0_0.length, .sc (.int .i64 t12.2.1), .sc (.int .u64 t12.2.2)]) (mrgL_fz (mrgL_nil' _ _ _) rfl (by first | rfl | simp only [reduceCtorEq, Nat.reduceEqDiff, ak, g3, g4, g5, g10]) rfl (by intro R hR hh; cases hR; cases hh.2)) rfl (by rfl) (.inl ⟨rfl, by first | rfl | simp only [reduceCtorEq, Nat.reduceEqDiff, ak, akF, Nat.zero_add, List.append_nil]⟩)) (by rfl) (mapT_killNil _ _) (by rfl) (by rfl) (by first | rfl | simp only [reduceCtorEq, Nat.reduceEqDiff, ak, akF, Nat.zero_add, List.append_nil]) ?_
  simp +decide only [Nat.reduceAdd, Nat.reduceMul, Int.reduceToNat, ak]
  refine hJ11 _ ?_
  refine seq_k fun J15 hJ15 => ?_
  refine sr_k fun J16 hJ16 => ?_
  simp +decide only [Nat.reduceAdd, Nat.reduceMul, Int.reduceToNat, ak]
  refine hJ16 _ ?_
  refine block_k fun B17 B17n B17x B17r B17j => ?_
  obtain ⟨y93, h94, h⟩ := of_bind h
  refine gh_k (st' := ⟨[(0, .c (.ptr (.arg 0) [] 0)), (2, .c (.sc (.int .i64 a2))), (4, .c (.ptr (.tmp 4 0) [] 0)), (7, .c (.ref (.tmp 13 0) [] 0 (([] : List S63).length))), (8, .c (.ptr (.tmp 8 0) [] 0)), (9, .c (.sc (.int .i64 t12.1))), (10, .c (.sc (.int .i64 0)))], [(.arg 0, ⟨.box, 0, [.ref (.arg 1) [] o1 l0_0.length, .sc (.int .i64 t12.2.1), .sc (.int .u64 t12.2.2)]⟩), (.arg 1, ⟨.fz, 1, cs1⟩), (.tmp 4 0, ⟨.box, 0, [.sc (.int .u32 a1_0), .sc (.int .i64 a1_1), .sc (.int .i64 a1_2), .sc (.int .i64 a1_3), .sc (.int .i64 a1_4), .sc (.int .i64 a1_5)]⟩), (.tmp 13 0, ⟨.lst, 3, encL c63 ([] : List S63)⟩), (.tmp 8 0, ⟨.box, 0, [.sc (.int .u32 t7.1), .sc (.int .i64 t7.2.1), .sc (.int .i64 t7.2.2.1), .sc (.int .i64 t7.2.2.2.1), .sc (.int .i64 t7.2.2.2.2.1), .sc (.int .i64 t7.2.2.2.2.2.1), .own 1 t7.2.2.2.2.2.2.1.length (encL c_i64 t7.2.2.2.2.2.2.1), .sc (.int .i64 t7.2.2.2.2.2.2.2.1), .sc (.int .i64 t7.2.2.2.2.2.2.2.2.1), .sc (.int .i64 t7.2.2.2.2.2.2.2.2.2.1), .sc (.int .i64 t7.2.2.2.2.2.2.2.2.2.2.1), .sc (.int .i64 t7.2.2.2.2.2.2.2.2.2.2.2.1), .sc (.bool t7.2.2.2.2.2.2.2.2.2.2.2.2)]⟩)], [], []⟩) (wk [0, 2, 4, 7, 8, 9, 10] [pI (.arg 0) .box, pI (.arg 1) .fz, pI (.tmp 4 0) .box, pI (.tmp 13 0) .lst, pI (.tmp 8 0) .box] (h := by first | rfl | (simp +decide only [ak, akF]; done) | (simp +decide [ak, akF] <;> omega))) ?_
  rw [e_loop]
  refine spec_l4DrawEvents.l0_walk cs1 o1 l0_0 hv1 a2 t12.1 a1_0 a1_1 a1_2 a1_3 a1_4 a1_5 t7.1 t7.2.1 t7.2.2.1 t7.2.2.2.1 t7.2.2.2.2.1 t7.2.2.2.2.2.1 0 t12.2.1 t12.2.2 ([] : List S63) t7.2.2.2.2.2.2.1 t7.2.2.2.2.2.2.2.1 t7.2.2.2.2.2.2.2.2.1 t7.2.2.2.2.2.2.2.2.2.1 t7.2.2.2.2.2.2.2.2.2.2.1 t7.2.2.2.2.2.2.2.2.2.2.2.1 t7.2.2.2.2.2.2.2.2.2.2.2.2 _ h94 _ ?_
  refine B17x _ ?_
  refine hJ15 _ ?_
  refine sr_k fun J95 hJ95 => ?_
  simp +decide only [Nat.reduceAdd, Nat.reduceMul, Int.reduceToNat, ak]
  refine hJ95 _ ?_
  obtain rfl := Option.some.inj h
  refine hKr _ ⟨_, rfl, [⟨(.tmp 13 0), [], none, .lst⟩], _, rfl, rfl, ?_⟩
  first | rfl | (simp only [reduceCtorEq, Nat.reduceEqDiff, ak, akF]; done) | (simp [reduceCtorEq, Nat.reduceEqDiff, ak, akF] <;> omega)
end Go.AK
