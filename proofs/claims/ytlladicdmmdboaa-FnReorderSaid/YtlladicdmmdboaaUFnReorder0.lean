-- by a program of this session (wip/ak/pw.py)
import Derived.Test.YtlladicdmmdboaaAk2
import Derived.KernelRfl
import Derived.Test.YtlladicdmmdboaaChecked
set_option synthInstance.maxSize 20000
set_option synthInstance.maxHeartbeats 400000
set_option maxRecDepth 100000
set_option maxHeartbeats 4000000
set_option linter.unusedVariables false
set_option linter.unusedSimpArgs false
namespace Go.AK
open Go Go.Proofs
def c_u8 (x : Int) : List Cell := [.sc (.int .u8 x)]
theorem c_u8_w (x : Int) : (c_u8 x).length = 1 := rfl
structure S116 where
 f0 : Int
 f1 : Int
 f2 : (List Int)
 f3 : Int
def z116 : S116 := ⟨0, 0, ([] : (List Int)), 0⟩
theorem S116.eta (x : S116) : (⟨x.f0, x.f1, x.f2, x.f3⟩ : S116) = x := rfl
def c116 (x : S116) : List Cell := [.sc (.int .i64 x.f0), .sc (.int .u64 x.f1), .own 1 x.f2.length (encL c_u8 x.f2), .sc (.int .i64 x.f3)]
theorem c116_w (x : S116) : (c116 x).length = 4 := rfl
def c_i64 (x : Int) : List Cell := [.sc (.int .i64 x)]
theorem c_i64_w (x : Int) : (c_i64 x).length = 1 := rfl
structure S118 where
 f0 : Int
 f1 : Int
 f2 : (List Int)
def z118 : S118 := ⟨0, 0, ([] : (List Int))⟩
theorem S118.eta (x : S118) : (⟨x.f0, x.f1, x.f2⟩ : S118) = x := rfl
def c118 (x : S118) : List Cell := [.sc (.int .i64 x.f0), .sc (.int .i64 x.f1), .own 1 x.f2.length (encL c_u8 x.f2)]
theorem c118_w (x : S118) : (c118 x).length = 3 := rfl
def c_bool (x : Bool) : List Cell := [.sc (.bool x)]
theorem c_bool_w (x : Bool) : (c_bool x).length = 1 := rfl
structure S122 where
 f0 : Int
 f1 : Int
def z122 : S122 := ⟨0, 0⟩
theorem S122.eta (x : S122) : (⟨x.f0, x.f1⟩ : S122) = x := rfl
def c122 (x : S122) : List Cell := [.sc (.int .u64 x.f0), .sc (.int .u64 x.f1)]
theorem c122_w (x : S122) : (c122 x).length = 2 := rfl
/-! ### spec.l1Begin: function 68 -/
def C68_l0 : AC := .seq (.seq (.reg [.op none (.mv 8 (.tmp 4)), .op none (.mv 9 (.tmp 0)), .op none (.len 10 (.tmp 9)), .op none (.bin 11 .lss (.tmp 8) (.tmp 10)), .keep [0, 2, 3, 4, 11]]) (.cond (.tmp 11) (.skip) (.gh (.exit 0)))) (.seq (.block 1 (.regD (.first (.op none (.faddr 14 2 (.tmp 3))) (.first (.op none (.load 15 false 1 (.tmp 14))) (.first (.op none (.mv 16 (.tmp 0))) (.first (.op none (.mv 17 (.tmp 4))) (.first (.op none (.iaddr 18 1 (.tmp 16) (.tmp 17))) (.first (.op none (.load 19 false 1 (.tmp 18))) (.first (.op none (.conv 20 .u64 (.tmp 19))) (.first (.op none (.bin 21 .xor (.tmp 15) (.tmp 20))) (.first (.op none (.bin 22 .mul (.tmp 21) (.const (.int .u64 1099511628211)))) (.first (.op none (.faddr 23 2 (.tmp 3))) (.alt (.op none (.store 1 (.tmp 23) (.tmp 22))) none (.done) (.stop)))))))))))) [0, 2, 3, 4])) (.reg [.op none (.mv 12 (.tmp 4)), .op none (.bin 13 .add (.tmp 12) (.const (.int .i64 1))), .op none (.mv 4 (.tmp 13)), .keep [0, 2, 3, 4]]))
def C68 : AC := .seq (.reg [.op none (.alloc 2 [.slice none 0 0, .int .i64 0, .int .u64 0]), .gh, .keep [0, 2]]) (.seq (.reg [.op none (.mv 5 (.tmp 0)), .op none (.build 6 [.slice none 0 0, .int .i64 0, .int .u64 0] [(0, 1, .tmp 5)]), .gh, .op none (.alloc 3 [.slice none 0 0, .int .i64 0, .int .u64 0]), .gh, .op none (.store 3 (.tmp 3) (.tmp 6)), .keep [0, 2, 3]]) (.seq (.reg [.op none (.faddr 7 2 (.tmp 3)), .op none (.store 1 (.tmp 7) (.const (.int .u64 1469598103934665603))), .keep [0, 2, 3]]) (.seq (.seq (.reg [.op none (.mv 4 (.const (.int .i64 0))), .keep [0, 2, 3, 4]]) (.block 0 (.gh (.loop (.ga C68_l0))))) (.seq (.reg [.op none (.load 24 true 3 (.tmp 3)), .op none (.store 3 (.tmp 2) (.tmp 24)), .keep [2]]) (.ret)))))
def r68 : List RV := [.cell 2 true 3]
theorem k68 : compC Try.prog 25 C68 (Try.f68.body.getD .skip) = some C68.erase := by kernel_rfl
theorem q68 : rvsOf Try.prog Try.f68.results.toList = some r68 := by kernel_rfl
def spec_l1Begin.l0 (l0 : List Int) (x0_1 : (List Int)) (x0_2 : Int) (x0_3 : Int) (x0_4 : Int) (x0_0 : Int) (x0_5 : Int) : Option Int := (if x0_0 < (l0.length : Int) then (if 0 ≤ x0_0 ∧ x0_0 < (l0.length : Int) then (spec_l1Begin.l0 l0 x0_1 x0_2 x0_3 x0_4 (IntKind.i64.wrap (x0_0 + 1)) (IntKind.u64.wrap ((bits .xor .u64 x0_5 (IntKind.u64.wrap (rd 0 l0 x0_0))) * 1099511628211))) else none) else (some x0_5))
 partial_fixpoint
def spec_l1Begin.f (l0 : List Int) : Option (Int × Int) := (spec_l1Begin.l0 l0 ([] : List Int) 0 0 0 0 1469598103934665603 >>= fun (y14 : Int) => (some (0, y14)))
def spec_l1Begin.l0_M (cs0 : List Cell) (o0 : Nat) (l0 : List Int) (hv0 : Vw c_u8 1 cs0 o0 l0) (x0_1 : (List Int)) (x0_2 : Int) (x0_3 : Int) (x0_4 : Int) (x0_0 : Int) (x0_5 : Int) (y : Int) : Prop := ∀ (K : AE → St → Prop), (K (.exit 0) ⟨[(2, .c (.ptr (.tmp 2 0) [] 0)), (3, .c (.ptr (.tmp 3 0) [] 0))], [(.arg 0, ⟨.fz, 1, cs0⟩), (.tmp 2 0, ⟨.box, 0, [.own 1 x0_1.length (encL c_u8 x0_1), .sc (.int .i64 x0_2), .sc (.int .u64 x0_3)]⟩), (.tmp 3 0, ⟨.box, 0, [.ref (.arg 0) [] o0 l0.length, .sc (.int .i64 x0_4), .sc (.int .u64 y)]⟩)], [], []⟩) → loopS Try.prog 25 (.ga C68_l0) K ⟨[(0, .c (.ref (.arg 0) [] o0 l0.length)), (2, .c (.ptr (.tmp 2 0) [] 0)), (3, .c (.ptr (.tmp 3 0) [] 0)), (4, .c (.sc (.int .i64 x0_0)))], [(.arg 0, ⟨.fz, 1, cs0⟩), (.tmp 2 0, ⟨.box, 0, [.own 1 x0_1.length (encL c_u8 x0_1), .sc (.int .i64 x0_2), .sc (.int .u64 x0_3)]⟩), (.tmp 3 0, ⟨.box, 0, [.ref (.arg 0) [] o0 l0.length, .sc (.int .i64 x0_4), .sc (.int .u64 x0_5)]⟩)], [], []⟩
theorem spec_l1Begin.l0_walk (cs0 : List Cell) (o0 : Nat) (l0 : List Int) (hv0 : Vw c_u8 1 cs0 o0 l0) (x0_1 : (List Int)) (x0_2 : Int) (x0_3 : Int) (x0_4 : Int) (x0_0 : Int) (x0_5 : Int) (y : Int) (h : spec_l1Begin.l0 l0 x0_1 x0_2 x0_3 x0_4 x0_0 x0_5 = some y) : spec_l1Begin.l0_M cs0 o0 l0 hv0 x0_1 x0_2 x0_3 x0_4 x0_0 x0_5 y := by
 refine spec_l1Begin.l0.partial_correctness l0 x0_1 x0_2 x0_3 x0_4 (motive := fun x0_0 x0_5 y => spec_l1Begin.l0_M cs0 o0 l0 hv0 x0_1 x0_2 x0_3 x0_4 x0_0 x0_5 y) ?_ x0_0 x0_5 y h
 clear h
 unfold spec_l1Begin.l0_M
 intro rec ih x0_0 x0_5 y h K hx0
 refine loop_unroll (ga_k fun G0 G0n G0r G0x => ?_)
 unfold C68_l0
 refine seq_k fun J7 hJ7 => ?_
 refine sr_k fun J8 hJ8 => ?_
 simp +decide only [Nat.reduceAdd, Nat.reduceMul, Int.reduceToNat, ak]
 refine hJ8 _ ?_
 refine cond_k (b := decide (x0_0 < (l0.length : Int))) rfl (fun c9 => ?_) (fun c9 => ?_)
 ·replace c9 := of_decide_eq_true c9; rw [if_pos c9] at h
  refine hJ7 _ ?_
  refine seq_k fun J10 hJ10 => ?_
  refine block_k fun B11 B11n B11x B11r B11j => ?_
  refine regD_k ?_
  obtain ⟨b12, h⟩ := of_guard h
  have g13 : (cs0)[o0 + x0_0.toNat * 1]? = some (.sc (.int .u8 (rd 0 l0 x0_0))) := hv0.get 0 0 b12.1 b12.2 (by decide)
  simp +decide only [Nat.reduceAdd, Nat.reduceMul, Int.reduceToNat, ak, b12, g13]
  refine alt_e ?_
  ·simp +decide only [Nat.reduceAdd, Nat.reduceMul, Int.reduceToNat, ak]
   refine B11n _ ?_
   refine hJ10 _ ?_
   refine reg_k ?_
   simp +decide only [Nat.reduceAdd, Nat.reduceMul, Int.reduceToNat, ak]
   refine G0n _ _ (wk [0, 2, 3, 4] [pI (.arg 0) .fz, pI (.tmp 2 0) .box, pI (.tmp 3 0) .box]) (ih _ _ _ h K hx0)
 ·replace c9 := of_decide_eq_false c9; rw [if_neg c9] at h
  obtain rfl := Option.some.inj h
  refine gh_k (wk [2, 3] [pI (.arg 0) .fz, pI (.tmp 2 0) .box, pI (.tmp 3 0) .box]) ?_
  refine G0x _ _ ?_
  exact hx0
theorem spec_l1Begin.tri (cs0 : List Cell) (o0 : Nat) (l0 : List Int) (hv0 : Vw c_u8 1 cs0 o0 l0) (r : Int × Int) (h : spec_l1Begin.f l0 = some r) : Tri Try.prog 68 [.c (.ref (.arg 0) [] o0 l0.length)] [(.arg 0, ⟨.fz, 1, cs0⟩)] (fun o => o = ⟨.g [.ref (.arg 0) [] o0 l0.length, .sc (.int .i64 r.1), .sc (.int .u64 r.2)], [(.arg 0, ⟨.fz, 1, cs0⟩)], [], []⟩) := by
 refine tri_of_body (ac := C68) (xs := r68) Try.func68 (show Try.f68.body = some (Try.f68.body.getD .skip) from rfl) k68 q68 (Nat.le_of_ble_eq_true rfl) ?_
 refine body_of fun K hKn hKr => ?_
 unfold spec_l1Begin.f at h
 unfold C68
 simp only [initT, Nat.reduceAdd]
 refine sr_k fun J1 hJ1 => ?_
 simp +decide only [Nat.reduceAdd, Nat.reduceMul, Int.reduceToNat, ak]
 refine gho_k (Weak.own (.tmp 2 0) (cs' := [.own 1 (([] : List Int).length) (encL c_u8 ([] : List Int)), .sc (.int .i64 0), .sc (.int .u64 0)]) rfl ⟨.inr ⟨rfl, _, rfl⟩, .inl rfl, .inl rfl, trivial⟩) ?_
 simp +decide only [Nat.reduceAdd, Nat.reduceMul, Int.reduceToNat, ak]
 refine hJ1 _ ?_
 refine sr_k fun J2 hJ2 => ?_
 simp +decide only [Nat.reduceAdd, Nat.reduceMul, Int.reduceToNat, ak]
 refine gho_k (Weak.refl _ _) ?_
 simp +decide only [Nat.reduceAdd, Nat.reduceMul, Int.reduceToNat, ak]
 refine gho_k (Weak.own (.tmp 3 0) (cs' := [.own 1 (([] : List Int).length) (encL c_u8 ([] : List Int)), .sc (.int .i64 0), .sc (.int .u64 0)]) rfl ⟨.inr ⟨rfl, _, rfl⟩, .inl rfl, .inl rfl, trivial⟩) ?_
 simp +decide only [Nat.reduceAdd, Nat.reduceMul, Int.reduceToNat, ak]
 refine hJ2 _ ?_
 refine sr_k fun J3 hJ3 => ?_
 simp +decide only [Nat.reduceAdd, Nat.reduceMul, Int.reduceToNat, ak]
 refine hJ3 _ ?_
 refine seq_k fun J4 hJ4 => ?_
 refine sr_k fun J5 hJ5 => ?_
 simp +decide only [Nat.reduceAdd, Nat.reduceMul, Int.reduceToNat, ak]
 refine hJ5 _ ?_
 refine block_k fun B6 B6n B6x B6r B6j => ?_
 obtain ⟨y14, h15, h⟩ := of_bind h
 refine gh_k (wk [0, 2, 3, 4] [pI (.arg 0) .fz, pI (.tmp 2 0) .box, pI (.tmp 3 0) .box]) ?_
 rw [e_loop]
 refine spec_l1Begin.l0_walk cs0 o0 l0 hv0 ([] : List Int) 0 0 0 0 1469598103934665603 _ h15 _ ?_
 refine B6x _ ?_
 refine hJ4 _ ?_
 refine sr_k fun J16 hJ16 => ?_
 simp +decide only [Nat.reduceAdd, Nat.reduceMul, Int.reduceToNat, ak]
 refine hJ16 _ ?_
 obtain rfl := Option.some.inj h
 refine hKr _ ⟨_, rfl, [], _, rfl, rfl, ?_⟩
 first | rfl | (simp only [reduceCtorEq, Nat.reduceEqDiff, ak, akF]; done) | (simp [reduceCtorEq, Nat.reduceEqDiff, ak, akF] <;> omega)
/-! ### spec.l1Next: function 69 -/
def C69 : AC := .seq (.reg [.op none (.mv 4 (.const (.int .i64 0))), .keep [0, 1]]) (.seq (.seq (.reg [.op none (.mv 6 (.tmp 1)), .op none (.bin 7 .leq (.tmp 6) (.const (.int .i64 0))), .keep [0, 1, 7]]) (.cond (.tmp 7) (.seq (.reg [.op none (.mv 4 (.const (.int .i64 0))), .keep [4]]) (.ret)) (.skip))) (.seq (.reg [.op none (.mv 8 (.tmp 0)), .op none (.mv 9 (.tmp 0)), .op none (.nilc 10 (.tmp 9)), .op none (.faddr 11 2 (.tmp 10)), .op none (.load 12 false 1 (.tmp 11)), .op none (.bin 13 .mul (.tmp 12) (.const (.int .u64 6364136223846793005))), .op none (.bin 14 .add (.tmp 13) (.const (.int .u64 1442695040888963407))), .op none (.nilc 15 (.tmp 8)), .op none (.faddr 16 2 (.tmp 15)), .op none (.store 1 (.tmp 16) (.tmp 14)), .keep [0, 1]]) (.seq (.reg [.op none (.mv 17 (.tmp 0)), .op none (.nilc 18 (.tmp 17)), .op none (.faddr 19 2 (.tmp 18)), .op none (.load 20 false 1 (.tmp 19)), .op none (.bin 21 .shr (.tmp 20) (.const (.int .u64 33))), .op none (.mv 5 (.tmp 21)), .keep [0, 1, 5]]) (.seq (.ga (.seq (.regD (.first (.op none (.mv 22 (.tmp 0))) (.first (.op none (.nilc 23 (.tmp 22))) (.first (.op none (.faddr 24 1 (.tmp 23))) (.first (.op none (.load 25 false 1 (.tmp 24))) (.first (.op none (.mv 26 (.tmp 0))) (.first (.op none (.nilc 27 (.tmp 26))) (.first (.op none (.faddr 28 0 (.tmp 27))) (.first (.op none (.load 29 false 1 (.tmp 28))) (.first (.op none (.len 30 (.tmp 29))) (.first (.op none (.bin 31 .lss (.tmp 25) (.tmp 30))) (.done))))))))))) [0, 1, 5, 31]) (.cond (.tmp 31) (.seq (.regD (.first (.op none (.mv 32 (.tmp 5))) (.first (.op none (.mv 33 (.tmp 0))) (.first (.op none (.nilc 34 (.tmp 33))) (.first (.op none (.faddr 35 0 (.tmp 34))) (.first (.op none (.load 36 false 1 (.tmp 35))) (.first (.op none (.mv 37 (.tmp 0))) (.first (.op none (.nilc 38 (.tmp 37))) (.first (.op none (.faddr 39 1 (.tmp 38))) (.first (.op none (.load 40 false 1 (.tmp 39))) (.first (.op none (.iaddr 41 1 (.tmp 36) (.tmp 40))) (.first (.op none (.load 42 false 1 (.tmp 41))) (.first (.op none (.conv 43 .u64 (.tmp 42))) (.first (.op none (.bin 44 .xor (.tmp 32) (.tmp 43))) (.first (.op none (.mv 5 (.tmp 44))) (.done))))))))))))))) [0, 1, 5]) (.reg [.op none (.mv 45 (.tmp 0)), .op none (.mv 46 (.tmp 0)), .op none (.nilc 47 (.tmp 46)), .op none (.faddr 48 1 (.tmp 47)), .op none (.load 49 false 1 (.tmp 48)), .op none (.bin 50 .add (.tmp 49) (.const (.int .i64 1))), .op none (.nilc 51 (.tmp 45)), .op none (.faddr 52 1 (.tmp 51)), .op none (.store 1 (.tmp 52) (.tmp 50)), .keep [1, 5]])) (.skip)))) (.seq (.reg [.op none (.mv 53 (.tmp 5)), .op none (.mv 54 (.tmp 1)), .op none (.conv 55 .u64 (.tmp 54)), .op none (.bin 56 .rem (.tmp 53) (.tmp 55)), .op none (.conv 57 .i64 (.tmp 56)), .op none (.mv 4 (.tmp 57)), .keep [4]]) (.ret))))))
def r69 : List RV := [.tmp 4]
theorem k69 : compC Try.prog 58 C69 (Try.f69.body.getD .skip) = some C69.erase := by kernel_rfl
theorem q69 : rvsOf Try.prog Try.f69.results.toList = some r69 := by kernel_rfl
def spec_l1Next.f (l0_0 : List Int) (a0_1 : Int) (a0_2 : Int) (a1 : Int) : Option (Int × Int × Int) := (if a1 ≤ 0 then (some (0, a0_1, a0_2)) else ((if a0_1 < (l0_0.length : Int) then (if 0 ≤ a0_1 ∧ a0_1 < (l0_0.length : Int) then (some (bits .xor .u64 ((IntKind.u64.wrap ((IntKind.u64.wrap (a0_2 * 6364136223846793005)) + 1442695040888963407)).fdiv (2 ^ 33)) (IntKind.u64.wrap (rd 0 l0_0 a0_1)), IntKind.i64.wrap (a0_1 + 1))) else none) else (some ((IntKind.u64.wrap ((IntKind.u64.wrap (a0_2 * 6364136223846793005)) + 1442695040888963407)).fdiv (2 ^ 33), a0_1))) >>= fun (j9 : Int × Int) => (if ¬ IntKind.u64.wrap a1 = 0 then (some (IntKind.i64.wrap (j9.1.tmod (IntKind.u64.wrap a1)), j9.2, IntKind.u64.wrap ((IntKind.u64.wrap (a0_2 * 6364136223846793005)) + 1442695040888963407))) else none)))
theorem spec_l1Next.tri (cs1 : List Cell) (o1 : Nat) (l0_0 : List Int) (hv1 : Vw c_u8 1 cs1 o1 l0_0) (a0_1 : Int) (a0_2 : Int) (a1 : Int) (r : Int × Int × Int) (h : spec_l1Next.f l0_0 a0_1 a0_2 a1 = some r) : Tri Try.prog 69 [.c (.ptr (.arg 0) [] 0), .c (.sc (.int .i64 a1))] [(.arg 0, ⟨.box, 0, [.ref (.arg 1) [] o1 l0_0.length, .sc (.int .i64 a0_1), .sc (.int .u64 a0_2)]⟩), (.arg 1, ⟨.fz, 1, cs1⟩)] (fun o => o = ⟨.c (.sc (.int .i64 r.1)), [(.arg 0, ⟨.box, 0, [.ref (.arg 1) [] o1 l0_0.length, .sc (.int .i64 r.2.1), .sc (.int .u64 r.2.2)]⟩), (.arg 1, ⟨.fz, 1, cs1⟩)], [], []⟩) := by
 refine tri_of_body (ac := C69) (xs := r69) Try.func69 (show Try.f69.body = some (Try.f69.body.getD .skip) from rfl) k69 q69 (Nat.le_of_ble_eq_true rfl) ?_
 refine body_of fun K hKn hKr => ?_
 unfold spec_l1Next.f at h
 unfold C69
 simp only [initT, Nat.reduceAdd]
 refine sr_k fun J1 hJ1 => ?_
 simp +decide only [Nat.reduceAdd, Nat.reduceMul, Int.reduceToNat, ak]
 refine hJ1 _ ?_
 refine seq_k fun J2 hJ2 => ?_
 refine sr_k fun J3 hJ3 => ?_
 simp +decide only [Nat.reduceAdd, Nat.reduceMul, Int.reduceToNat, ak]
 refine hJ3 _ ?_
 refine cond_k (b := decide (a1 ≤ 0)) rfl (fun c4 => ?_) (fun c4 => ?_)
 ·replace c4 := of_decide_eq_true c4; rw [if_pos c4] at h
  refine sr_k fun J5 hJ5 => ?_
  simp +decide only [Nat.reduceAdd, Nat.reduceMul, Int.reduceToNat, ak]
  refine hJ5 _ ?_
  obtain rfl := Option.some.inj h
  refine hKr _ ⟨_, rfl, [], _, rfl, rfl, ?_⟩
  first | rfl | (simp only [reduceCtorEq, Nat.reduceEqDiff, ak, akF]; done) | (simp [reduceCtorEq, Nat.reduceEqDiff, ak, akF] <;> omega)
 ·replace c4 := of_decide_eq_false c4; rw [if_neg c4] at h
  refine hJ2 _ ?_
  refine sr_k fun J6 hJ6 => ?_
  simp +decide only [Nat.reduceAdd, Nat.reduceMul, Int.reduceToNat, ak]
  refine hJ6 _ ?_
  refine sr_k fun J7 hJ7 => ?_
  have g8 : ∀ a, abin .shr (.int .u64 a) (.int .u64 33) = some (.int .u64 (a.fdiv (2 ^ 33))) := fun a => akShrL _ _ a 33 (by decide)
  simp +decide only [Nat.reduceAdd, Nat.reduceMul, Int.reduceToNat, ak, g8]
  refine hJ7 _ ?_
  obtain ⟨j9, h10, hn⟩ := of_bind h
  refine seq_j (fun st => st = ⟨[(1, .c (.sc (.int .i64 a1))), (5, .c (.sc (.int .u64 j9.1)))], [(.arg 0, ⟨.box, 0, [.ref (.arg 1) [] o1 l0_0.length, .sc (.int .i64 j9.2), .sc (.int .u64 (IntKind.u64.wrap ((IntKind.u64.wrap (a0_2 * 6364136223846793005)) + 1442695040888963407)))]⟩), (.arg 1, ⟨.fz, 1, cs1⟩)], [], []⟩) (fun J11 hJ11 => ?_) ?_
  ·replace h := h10; clear hn
   refine ga_k fun G12 G12n G12r G12x => ?_
   refine sd_k fun J13 hJ13 => ?_
   simp +decide only [Nat.reduceAdd, Nat.reduceMul, Int.reduceToNat, ak]
   refine hJ13 _ ?_
   refine cond_k (b := decide (a0_1 < (l0_0.length : Int))) rfl (fun c14 => ?_) (fun c14 => ?_)
   ·replace c14 := of_decide_eq_true c14; rw [if_pos c14] at h
    refine sd_k fun J15 hJ15 => ?_
    obtain ⟨b16, h⟩ := of_guard h
    have g17 : (cs1)[o1 + a0_1.toNat * 1]? = some (.sc (.int .u8 (rd 0 l0_0 a0_1))) := hv1.get 0 0 b16.1 b16.2 (by decide)
    simp +decide only [Nat.reduceAdd, Nat.reduceMul, Int.reduceToNat, ak, b16, g17]
    refine hJ15 _ ?_
    refine reg_k ?_
    simp +decide only [Nat.reduceAdd, Nat.reduceMul, Int.reduceToNat, ak]
    obtain rfl := Option.some.inj h
    refine G12n _ _ (wk [1, 5] [pI (.arg 0) .box, pI (.arg 1) .fz]) (hJ11 _ rfl)
   ·replace c14 := of_decide_eq_false c14; rw [if_neg c14] at h
    obtain rfl := Option.some.inj h
    refine G12n _ _ (wk [1, 5] [pI (.arg 0) .box, pI (.arg 1) .fz]) (hJ11 _ rfl)
  ·replace h := hn; clear hn h10
   rintro _ rfl
   refine sr_k fun J18 hJ18 => ?_
   obtain ⟨b19, h⟩ := of_guard h
   simp +decide only [Nat.reduceAdd, Nat.reduceMul, Int.reduceToNat, ak, b19]
   refine hJ18 _ ?_
   obtain rfl := Option.some.inj h
   refine hKr _ ⟨_, rfl, [], _, rfl, rfl, ?_⟩
   first | rfl | (simp only [reduceCtorEq, Nat.reduceEqDiff, ak, akF, b19]; done) | (simp [reduceCtorEq, Nat.reduceEqDiff, ak, akF, b19] <;> omega)
/-! ### spec.l5DrawStart: function 110 -/
def C110 : AC := .seq (.reg [.op none (.mv 2 (.const (.int .u64 0))), .keep [0]]) (.seq (.seq (.reg [.op none (.mv 3 (.tmp 0)), .call none (some 4) 69 [.tmp 3, .const (.int .i64 5)], .keep [0, 4]]) (.block 0 (.seq (.reg [.op none (.bin 6 .eql (.tmp 4) (.const (.int .i64 0))), .op none (.mv 5 (.tmp 6)), .keep [0, 4, 5]]) (.cond (.tmp 5) (.seq (.reg [.op none (.mv 7 (.tmp 0)), .call none (some 8) 69 [.tmp 7, .const (.int .i64 3)], .op none (.conv 9 .u64 (.tmp 8)), .op none (.bin 10 .sub (.const (.int .u64 4611686018427387904)) (.tmp 9)), .op none (.mv 2 (.tmp 10)), .keep [2]]) (.ret)) (.seq (.reg [.op none (.bin 12 .eql (.tmp 4) (.const (.int .i64 1))), .op none (.mv 11 (.tmp 12)), .keep [0, 4, 11]]) (.cond (.tmp 11) (.seq (.reg [.op none (.mv 13 (.tmp 0)), .call none (some 14) 69 [.tmp 13, .const (.int .i64 60)], .op none (.conv 15 .u64 (.tmp 14)), .op none (.bin 16 .sub (.const (.int .u64 4294967296)) (.tmp 15)), .op none (.mv 2 (.tmp 16)), .keep [2]]) (.ret)) (.seq (.reg [.op none (.bin 18 .eql (.tmp 4) (.const (.int .i64 2))), .op none (.mv 17 (.tmp 18)), .keep [0, 17]]) (.cond (.tmp 17) (.seq (.reg [.op none (.mv 19 (.tmp 0)), .call none (some 20) 69 [.tmp 19, .const (.int .i64 1000)], .op none (.conv 21 .u64 (.tmp 20)), .op none (.mv 2 (.tmp 21)), .keep [2]]) (.ret)) (.skip))))))))) (.seq (.reg [.op none (.mv 2 (.const (.int .u64 0))), .keep [2]]) (.ret)))
def r110 : List RV := [.tmp 2]
theorem k110 : compC Try.prog 22 C110 (Try.f110.body.getD .skip) = some C110.erase := by kernel_rfl
theorem q110 : rvsOf Try.prog Try.f110.results.toList = some r110 := by kernel_rfl
def spec_l5DrawStart.f (l0_0 : List Int) (a0_1 : Int) (a0_2 : Int) : Option (Int × Int × Int) := (spec_l1Next.f l0_0 a0_1 a0_2 5 >>= fun t4 => (if t4.1 = 0 then (spec_l1Next.f l0_0 t4.2.1 t4.2.2 3 >>= fun t11 => (some (IntKind.u64.wrap (4611686018427387904 - (IntKind.u64.wrap t11.1)), t11.2.1, t11.2.2))) else (if t4.1 = 1 then (spec_l1Next.f l0_0 t4.2.1 t4.2.2 60 >>= fun t17 => (some (IntKind.u64.wrap (4294967296 - (IntKind.u64.wrap t17.1)), t17.2.1, t17.2.2))) else (if t4.1 = 2 then (spec_l1Next.f l0_0 t4.2.1 t4.2.2 1000 >>= fun t23 => (some (IntKind.u64.wrap t23.1, t23.2.1, t23.2.2))) else (some (0, t4.2.1, t4.2.2))))))
theorem spec_l5DrawStart.tri (cs1 : List Cell) (o1 : Nat) (l0_0 : List Int) (hv1 : Vw c_u8 1 cs1 o1 l0_0) (a0_1 : Int) (a0_2 : Int) (r : Int × Int × Int) (h : spec_l5DrawStart.f l0_0 a0_1 a0_2 = some r) : Tri Try.prog 110 [.c (.ptr (.arg 0) [] 0)] [(.arg 0, ⟨.box, 0, [.ref (.arg 1) [] o1 l0_0.length, .sc (.int .i64 a0_1), .sc (.int .u64 a0_2)]⟩), (.arg 1, ⟨.fz, 1, cs1⟩)] (fun o => o = ⟨.c (.sc (.int .u64 r.1)), [(.arg 0, ⟨.box, 0, [.ref (.arg 1) [] o1 l0_0.length, .sc (.int .i64 r.2.1), .sc (.int .u64 r.2.2)]⟩), (.arg 1, ⟨.fz, 1, cs1⟩)], [], []⟩) := by
 refine tri_of_body (ac := C110) (xs := r110) Try.func110 (show Try.f110.body = some (Try.f110.body.getD .skip) from rfl) k110 q110 (Nat.le_of_ble_eq_true rfl) ?_
 refine body_of fun K hKn hKr => ?_
 unfold spec_l5DrawStart.f at h
 unfold C110
 simp only [initT, Nat.reduceAdd]
 refine sr_k fun J1 hJ1 => ?_
 simp +decide only [Nat.reduceAdd, Nat.reduceMul, Int.reduceToNat, ak]
 refine hJ1 _ ?_
 refine seq_k fun J2 hJ2 => ?_
 refine sr_k fun J3 hJ3 => ?_
 simp +decide only [Nat.reduceAdd, Nat.reduceMul, Int.reduceToNat, ak]
 obtain ⟨t4, h5, h⟩ := of_bind h
 refine call_m [(.arg 0, ⟨(.arg 0), [], none, .box⟩), (.arg 1, ⟨(.arg 1), [], none, .fz⟩)] (s0 := [(.arg 0, ⟨.box, 0, [.ref (.arg 1) [] o1 l0_0.length, .sc (.int .i64 a0_1), .sc (.int .u64 a0_2)]⟩), (.arg 1, ⟨.fz, 1, cs1⟩)]) (by intro t ht; cases ht; decide) rfl rfl (by first | rfl | simp only [reduceCtorEq, Nat.reduceEqDiff, ak, akF]) (spec_l1Next.tri (cs1) o1 l0_0 hv1 a0_1 a0_2 5 _ h5) (by first | rfl | simp only [reduceCtorEq, Nat.reduceEqDiff, ak, akF]) (by simp [bkOk2, memK]) (fun hl5 => ?_)
 refine call_st (s4 := [(.arg 0, ⟨.box, 0, [.ref (.arg 1) [] o1 l0_0.length, .sc (.int .i64 t4.2.1), .sc (.int .u64 t4.2.2)]⟩), (.arg 1, ⟨.fz, 1, cs1⟩)]) (m1' := []) (m2' := []) (v' := .c (.sc (.int .i64 t4.1))) (Sto.mapN_killNil _ _) (mrgL_whole (new' := [.ref (.arg 1) [] o1 l0_0.length, .sc (.int .i64 t4.2.1), .sc (.int .u64 t4.2.2)]) (mrgL_fz (mrgL_nil' _ _ _) rfl (by first | rfl | simp only [reduceCtorEq, Nat.reduceEqDiff, ak]) rfl (by intro R hR hh; cases hR; cases hh.2)) rfl (by rfl) (.inl ⟨rfl, by first | rfl | simp only [reduceCtorEq, Nat.reduceEqDiff, ak, akF, Nat.zero_add, List.append_nil]⟩)) (by rfl) (mapT_killNil _ _) (by rfl) (by rfl) (by first | rfl | simp only [reduceCtorEq, Nat.reduceEqDiff, ak, akF, Nat.zero_add, List.append_nil]) ?_
 simp +decide only [Nat.reduceAdd, Nat.reduceMul, Int.reduceToNat, ak]
 refine hJ3 _ ?_
 refine block_k fun B7 B7n B7x B7r B7j => ?_
 refine sr_k fun J8 hJ8 => ?_
 simp +decide only [Nat.reduceAdd, Nat.reduceMul, Int.reduceToNat, ak]
 refine hJ8 _ ?_
 refine cond_k (b := decide (t4.1 = 0)) rfl (fun c9 => ?_) (fun c9 => ?_)
 ·replace c9 := of_decide_eq_true c9; rw [if_pos c9] at h
  refine sr_k fun J10 hJ10 => ?_
  simp +decide only [Nat.reduceAdd, Nat.reduceMul, Int.reduceToNat, ak]
  obtain ⟨t11, h12, h⟩ := of_bind h
  refine call_m [(.arg 0, ⟨(.arg 0), [], none, .box⟩), (.arg 1, ⟨(.arg 1), [], none, .fz⟩)] (s0 := [(.arg 0, ⟨.box, 0, [.ref (.arg 1) [] o1 l0_0.length, .sc (.int .i64 t4.2.1), .sc (.int .u64 t4.2.2)]⟩), (.arg 1, ⟨.fz, 1, cs1⟩)]) (by intro t ht; cases ht; decide) rfl rfl (by first | rfl | simp only [reduceCtorEq, Nat.reduceEqDiff, ak, akF]) (spec_l1Next.tri (cs1) o1 l0_0 hv1 t4.2.1 t4.2.2 3 _ h12) (by first | rfl | simp only [reduceCtorEq, Nat.reduceEqDiff, ak, akF]) (by simp [bkOk2, memK]) (fun hl12 => ?_)
  refine call_st (s4 := [(.arg 0, ⟨.box, 0, [.ref (.arg 1) [] o1 l0_0.length, .sc (.int .i64 t11.2.1), .sc (.int .u64 t11.2.2)]⟩), (.arg 1, ⟨.fz, 1, cs1⟩)]) (m1' := []) (m2' := []) (v' := .c (.sc (.int .i64 t11.1))) (Sto.mapN_killNil _ _) (mrgL_whole (new' := [.ref (.arg 1) [] o1 l0_0.length, .sc (.int .i64 t11.2.1), .sc (.int .u64 t11.2.2)]) (mrgL_fz (mrgL_nil' _ _ _) rfl (by first | rfl | simp only [reduceCtorEq, Nat.reduceEqDiff, ak]) rfl (by intro R hR hh; cases hR; cases hh.2)) rfl (by rfl) (.inl ⟨rfl, by first | rfl | simp only [reduceCtorEq, Nat.reduceEqDiff, ak, akF, Nat.zero_add, List.append_nil]⟩)) (by rfl) (mapT_killNil _ _) (by rfl) (by rfl) (by first | rfl | simp only [reduceCtorEq, Nat.reduceEqDiff, ak, akF, Nat.zero_add, List.append_nil]) ?_
  simp +decide only [Nat.reduceAdd, Nat.reduceMul, Int.reduceToNat, ak]
  refine hJ10 _ ?_
  refine B7r _ ?_
  obtain rfl := Option.some.inj h
  refine hKr _ ⟨_, rfl, [], _, rfl, rfl, ?_⟩
  first | rfl | (simp only [reduceCtorEq, Nat.reduceEqDiff, ak, akF]; done) | (simp [reduceCtorEq, Nat.reduceEqDiff, ak, akF] <;> omega)
 ·replace c9 := of_decide_eq_false c9; rw [if_neg c9] at h
  refine sr_k fun J14 hJ14 => ?_
  simp +decide only [Nat.reduceAdd, Nat.reduceMul, Int.reduceToNat, ak]
  refine hJ14 _ ?_
  refine cond_k (b := decide (t4.1 = 1)) rfl (fun c15 => ?_) (fun c15 => ?_)
  ·replace c15 := of_decide_eq_true c15; rw [if_pos c15] at h
   refine sr_k fun J16 hJ16 => ?_
   simp +decide only [Nat.reduceAdd, Nat.reduceMul, Int.reduceToNat, ak]
   obtain ⟨t17, h18, h⟩ := of_bind h
   refine call_m [(.arg 0, ⟨(.arg 0), [], none, .box⟩), (.arg 1, ⟨(.arg 1), [], none, .fz⟩)] (s0 := [(.arg 0, ⟨.box, 0, [.ref (.arg 1) [] o1 l0_0.length, .sc (.int .i64 t4.2.1), .sc (.int .u64 t4.2.2)]⟩), (.arg 1, ⟨.fz, 1, cs1⟩)]) (by intro t ht; cases ht; decide) rfl rfl (by first | rfl | simp only [reduceCtorEq, Nat.reduceEqDiff, ak, akF]) (spec_l1Next.tri (cs1) o1 l0_0 hv1 t4.2.1 t4.2.2 60 _ h18) (by first | rfl | simp only [reduceCtorEq, Nat.reduceEqDiff, ak, akF]) (by simp [bkOk2, memK]) (fun hl18 => ?_)
   refine call_st (s4 := [(.arg 0, ⟨.box, 0, [.ref (.arg 1) [] o1 l0_0.length, .sc (.int .i64 t17.2.1), .sc (.int .u64 t17.2.2)]⟩), (.arg 1, ⟨.fz, 1, cs1⟩)]) (m1' := []) (m2' := []) (v' := .c (.sc (.int .i64 t17.1))) (Sto.mapN_killNil _ _) (mrgL_whole (new' := [.ref (.arg 1) [] o1 l0_0.length, .sc (.int .i64 t17.2.1), .sc (.int .u64 t17.2.2)]) (mrgL_fz (mrgL_nil' _ _ _) rfl (by first | rfl | simp only [reduceCtorEq, Nat.reduceEqDiff, ak]) rfl (by intro R hR hh; cases hR; cases hh.2)) rfl (by rfl) (.inl ⟨rfl, by first | rfl | simp only [reduceCtorEq, Nat.reduceEqDiff, ak, akF, Nat.zero_add, List.append_nil]⟩)) (by rfl) (mapT_killNil _ _) (by rfl) (by rfl) (by first | rfl | simp only [reduceCtorEq, Nat.reduceEqDiff, ak, akF, Nat.zero_add, List.append_nil]) ?_
   simp +decide only [Nat.reduceAdd, Nat.reduceMul, Int.reduceToNat, ak]
   refine hJ16 _ ?_
   refine B7r _ ?_
   obtain rfl := Option.some.inj h
   refine hKr _ ⟨_, rfl, [], _, rfl, rfl, ?_⟩
   first | rfl | (simp only [reduceCtorEq, Nat.reduceEqDiff, ak, akF]; done) | (simp [reduceCtorEq, Nat.reduceEqDiff, ak, akF] <;> omega)
  ·replace c15 := of_decide_eq_false c15; rw [if_neg c15] at h
   refine sr_k fun J20 hJ20 => ?_
   simp +decide only [Nat.reduceAdd, Nat.reduceMul, Int.reduceToNat, ak]
   refine hJ20 _ ?_
   refine cond_k (b := decide (t4.1 = 2)) rfl (fun c21 => ?_) (fun c21 => ?_)
   ·replace c21 := of_decide_eq_true c21; rw [if_pos c21] at h
    refine sr_k fun J22 hJ22 => ?_
    simp +decide only [Nat.reduceAdd, Nat.reduceMul, Int.reduceToNat, ak]
    obtain ⟨t23, h24, h⟩ := of_bind h
    refine call_m [(.arg 0, ⟨(.arg 0), [], none, .box⟩), (.arg 1, ⟨(.arg 1), [], none, .fz⟩)] (s0 := [(.arg 0, ⟨.box, 0, [.ref (.arg 1) [] o1 l0_0.length, .sc (.int .i64 t4.2.1), .sc (.int .u64 t4.2.2)]⟩), (.arg 1, ⟨.fz, 1, cs1⟩)]) (by intro t ht; cases ht; decide) rfl rfl (by first | rfl | simp only [reduceCtorEq, Nat.reduceEqDiff, ak, akF]) (spec_l1Next.tri (cs1) o1 l0_0 hv1 t4.2.1 t4.2.2 1000 _ h24) (by first | rfl | simp only [reduceCtorEq, Nat.reduceEqDiff, ak, akF]) (by simp [bkOk2, memK]) (fun hl24 => ?_)
    refine call_st (s4 := [(.arg 0, ⟨.box, 0, [.ref (.arg 1) [] o1 l0_0.length, .sc (.int .i64 t23.2.1), .sc (.int .u64 t23.2.2)]⟩), (.arg 1, ⟨.fz, 1, cs1⟩)]) (m1' := []) (m2' := []) (v' := .c (.sc (.int .i64 t23.1))) (Sto.mapN_killNil _ _) (mrgL_whole (new' := [.ref (.arg 1) [] o1 l0_0.length, .sc (.int .i64 t23.2.1), .sc (.int .u64 t23.2.2)]) (mrgL_fz (mrgL_nil' _ _ _) rfl (by first | rfl | simp only [reduceCtorEq, Nat.reduceEqDiff, ak]) rfl (by intro R hR hh; cases hR; cases hh.2)) rfl (by rfl) (.inl ⟨rfl, by first | rfl | simp only [reduceCtorEq, Nat.reduceEqDiff, ak, akF, Nat.zero_add, List.append_nil]⟩)) (by rfl) (mapT_killNil _ _) (by rfl) (by rfl) (by first | rfl | simp only [reduceCtorEq, Nat.reduceEqDiff, ak, akF, Nat.zero_add, List.append_nil]) ?_
    simp +decide only [Nat.reduceAdd, Nat.reduceMul, Int.reduceToNat, ak]
    refine hJ22 _ ?_
    refine B7r _ ?_
    obtain rfl := Option.some.inj h
    refine hKr _ ⟨_, rfl, [], _, rfl, rfl, ?_⟩
    first | rfl | (simp only [reduceCtorEq, Nat.reduceEqDiff, ak, akF]; done) | (simp [reduceCtorEq, Nat.reduceEqDiff, ak, akF] <;> omega)
   ·replace c21 := of_decide_eq_false c21; rw [if_neg c21] at h
    refine B7n _ ?_
    refine hJ2 _ ?_
    refine sr_k fun J26 hJ26 => ?_
    simp +decide only [Nat.reduceAdd, Nat.reduceMul, Int.reduceToNat, ak]
    refine hJ26 _ ?_
    obtain rfl := Option.some.inj h
    refine hKr _ ⟨_, rfl, [], _, rfl, rfl, ?_⟩
    first | rfl | (simp only [reduceCtorEq, Nat.reduceEqDiff, ak, akF]; done) | (simp [reduceCtorEq, Nat.reduceEqDiff, ak, akF] <;> omega)
/-! ### spec.l5Begin: function 136 -/
def C136 : AC := .seq (.reg [.op none (.alloc 4 [.int .u64 0, .int .i64 0, .slice none 0 0, .int .i64 0, .int .u64 0, .bool false]), .gh, .keep [0, 1, 4]]) (.seq (.reg [.op none (.mv 5 (.tmp 0)), .op none (.mv 6 (.tmp 1)), .op none (.build 7 [.int .u64 0, .int .i64 0, .slice none 0 0, .int .i64 0, .int .u64 0, .bool false] [(0, 1, .tmp 5), (1, 1, .tmp 6)]), .gh, .op none (.store 6 (.tmp 4) (.tmp 7)), .keep [4]]) (.ret))
def r136 : List RV := [.cell 4 true 6]
theorem k136 : compC Try.prog 8 C136 (Try.f136.body.getD .skip) = some C136.erase := by kernel_rfl
theorem q136 : rvsOf Try.prog Try.f136.results.toList = some r136 := by kernel_rfl
def spec_l5Begin.f (a0 : Int) (a1 : Int) : Option (Int × Int × (List Int) × Int × Int × Bool) := (some (a0, a1, ([] : List Int), 0, 0, false))
theorem spec_l5Begin.tri (a0 : Int) (a1 : Int) (r : Int × Int × (List Int) × Int × Int × Bool) (h : spec_l5Begin.f a0 a1 = some r) : Tri Try.prog 136 [.c (.sc (.int .u64 a0)), .c (.sc (.int .i64 a1))] [] (fun o => o = ⟨.g [.sc (.int .u64 r.1), .sc (.int .i64 r.2.1), .ref (.res 0) [] 0 r.2.2.1.length, .sc (.int .i64 r.2.2.2.1), .sc (.int .u64 r.2.2.2.2.1), .sc (.bool r.2.2.2.2.2)], [(.res 0, ⟨.lst, 1, encL c_i64 r.2.2.1⟩)], [], []⟩) := by
 refine tri_of_body (ac := C136) (xs := r136) Try.func136 (show Try.f136.body = some (Try.f136.body.getD .skip) from rfl) k136 q136 (Nat.le_of_ble_eq_true rfl) ?_
 refine body_of fun K hKn hKr => ?_
 unfold spec_l5Begin.f at h
 unfold C136
 simp only [initT, Nat.reduceAdd]
 refine sr_k fun J1 hJ1 => ?_
 simp +decide only [Nat.reduceAdd, Nat.reduceMul, Int.reduceToNat, ak]
 refine gho_k (Weak.own (.tmp 4 0) (cs' := [.sc (.int .u64 0), .sc (.int .i64 0), .own 1 (([] : List Int).length) (encL c_i64 ([] : List Int)), .sc (.int .i64 0), .sc (.int .u64 0), .sc (.bool false)]) rfl ⟨.inl rfl, .inl rfl, .inr ⟨rfl, _, rfl⟩, .inl rfl, .inl rfl, .inl rfl, trivial⟩) ?_
 simp +decide only [Nat.reduceAdd, Nat.reduceMul, Int.reduceToNat, ak]
 refine hJ1 _ ?_
 refine sr_k fun J2 hJ2 => ?_
 simp +decide only [Nat.reduceAdd, Nat.reduceMul, Int.reduceToNat, ak]
 refine gho_k (Weak.nmg' 7 2 (.tmp 7 22) 1 (encL c_i64 ([] : List Int)) rfl rfl rfl rfl) ?_
 have g3 : (encL c_i64 ([] : List Int)).length = 0 * 1 := by simp [encL_length c_i64_w]
 simp +decide only [Nat.reduceAdd, Nat.reduceMul, Int.reduceToNat, ak, g3]
 refine hJ2 _ ?_
 obtain rfl := Option.some.inj h
 refine hKr _ ⟨_, rfl, [⟨(.tmp 4 0), [2], none, .lst⟩], _, rfl, rfl, ?_⟩
 first | rfl | (simp only [reduceCtorEq, Nat.reduceEqDiff, ak, akF]; done) | (simp [reduceCtorEq, Nat.reduceEqDiff, ak, akF] <;> omega)
/-! ### spec.l5At: function 161 -/
def C161 : AC := .seq (.reg [.op none (.mv 4 (.const (.int .i64 0))), .keep [0, 1]]) (.seq (.seq (.reg [.op none (.mv 5 (.tmp 1)), .op none (.mv 6 (.tmp 0)), .op none (.nilc 7 (.tmp 6)), .op none (.faddr 8 2 (.tmp 7)), .op none (.load 9 false 1 (.tmp 8)), .op none (.len 10 (.tmp 9)), .op none (.bin 11 .geq (.tmp 5) (.tmp 10)), .keep [0, 1, 11]]) (.cond (.tmp 11) (.seq (.reg [.op none (.mv 4 (.const (.int .i64 (-1)))), .keep [4]]) (.ret)) (.skip))) (.seq (.reg [.op none (.mv 12 (.tmp 0)), .op none (.nilc 13 (.tmp 12)), .op none (.faddr 14 2 (.tmp 13)), .op none (.load 15 false 1 (.tmp 14)), .op none (.mv 16 (.tmp 1)), .op none (.iaddr 17 1 (.tmp 15) (.tmp 16)), .op none (.load 18 false 1 (.tmp 17)), .op none (.mv 4 (.tmp 18)), .keep [4]]) (.ret)))
def r161 : List RV := [.tmp 4]
theorem k161 : compC Try.prog 19 C161 (Try.f161.body.getD .skip) = some C161.erase := by kernel_rfl
theorem q161 : rvsOf Try.prog Try.f161.results.toList = some r161 := by kernel_rfl
def spec_l5At.f (a0_0 : Int) (a0_1 : Int) (l0_2 : List Int) (a0_3 : Int) (a0_4 : Int) (a0_5 : Bool) (a1 : Int) : Option Int := (if a1 ≥ (l0_2.length : Int) then (some (-1)) else (if 0 ≤ a1 ∧ a1 < (l0_2.length : Int) then (some (rd 0 l0_2 a1)) else none))
theorem spec_l5At.tri (a0_0 : Int) (a0_1 : Int) (l0_2 : List Int) (a0_3 : Int) (a0_4 : Int) (a0_5 : Bool) (a1 : Int) (r : Int) (h : spec_l5At.f a0_0 a0_1 l0_2 a0_3 a0_4 a0_5 a1 = some r) : Tri Try.prog 161 [.c (.ptr (.arg 0) [] 0), .c (.sc (.int .i64 a1))] [(.arg 0, ⟨.box, 0, [.sc (.int .u64 a0_0), .sc (.int .i64 a0_1), .own 1 l0_2.length (encL c_i64 l0_2), .sc (.int .i64 a0_3), .sc (.int .u64 a0_4), .sc (.bool a0_5)]⟩)] (fun o => o = ⟨.c (.sc (.int .i64 r)), [(.arg 0, ⟨.box, 0, [.sc (.int .u64 a0_0), .sc (.int .i64 a0_1), .own 1 l0_2.length (encL c_i64 l0_2), .sc (.int .i64 a0_3), .sc (.int .u64 a0_4), .sc (.bool a0_5)]⟩)], [], []⟩) := by
 refine tri_of_body (ac := C161) (xs := r161) Try.func161 (show Try.f161.body = some (Try.f161.body.getD .skip) from rfl) k161 q161 (Nat.le_of_ble_eq_true rfl) ?_
 refine body_of fun K hKn hKr => ?_
 unfold spec_l5At.f at h
 unfold C161
 simp only [initT, Nat.reduceAdd]
 refine sr_k fun J1 hJ1 => ?_
 simp +decide only [Nat.reduceAdd, Nat.reduceMul, Int.reduceToNat, ak]
 refine hJ1 _ ?_
 refine seq_k fun J2 hJ2 => ?_
 refine sr_k fun J3 hJ3 => ?_
 simp +decide only [Nat.reduceAdd, Nat.reduceMul, Int.reduceToNat, ak]
 refine hJ3 _ ?_
 refine cond_k (b := decide (a1 ≥ (l0_2.length : Int))) rfl (fun c4 => ?_) (fun c4 => ?_)
 ·replace c4 := of_decide_eq_true c4; rw [if_pos c4] at h
  refine sr_k fun J5 hJ5 => ?_
  simp +decide only [Nat.reduceAdd, Nat.reduceMul, Int.reduceToNat, ak]
  refine hJ5 _ ?_
  obtain rfl := Option.some.inj h
  refine hKr _ ⟨_, rfl, [], _, rfl, rfl, ?_⟩
  first | rfl | (simp only [reduceCtorEq, Nat.reduceEqDiff, ak, akF]; done) | (simp [reduceCtorEq, Nat.reduceEqDiff, ak, akF] <;> omega)
 ·replace c4 := of_decide_eq_false c4; rw [if_neg c4] at h
  refine hJ2 _ ?_
  refine sr_k fun J6 hJ6 => ?_
  obtain ⟨b7, h⟩ := of_guard h
  have g8 : (encL c_i64 l0_2)[0 + a1.toNat * 1]? = some (.sc (.int .i64 (rd 0 l0_2 a1))) := (Vw.whole c_i64_w l0_2).get 0 0 b7.1 b7.2 (by decide)
  simp +decide only [Nat.reduceAdd, Nat.reduceMul, Int.reduceToNat, ak, b7, g8]
  refine hJ6 _ ?_
  obtain rfl := Option.some.inj h
  refine hKr _ ⟨_, rfl, [], _, rfl, rfl, ?_⟩
  first | rfl | (simp only [reduceCtorEq, Nat.reduceEqDiff, ak, akF, b7]; done) | (simp [reduceCtorEq, Nat.reduceEqDiff, ak, akF, b7] <;> omega)
/-! ### spec.l5Next: function 141 -/
def C141_l0 : AC := .seq (.seq (.reg [.op none (.mv 8 (.tmp 0)), .op none (.mv 9 (.tmp 3)), .call none (some 10) 161 [.tmp 8, .tmp 9], .op none (.bin 11 .geq (.tmp 10) (.const (.int .i64 0))), .keep [0, 3, 11]]) (.cond (.tmp 11) (.skip) (.gh (.exit 0)))) (.block 1 (.reg [.op none (.mv 12 (.tmp 3)), .op none (.bin 13 .add (.tmp 12) (.const (.int .i64 1))), .op none (.mv 3 (.tmp 13)), .keep [0, 3]]))
def C141 : AC := .seq (.reg [.op none (.mv 2 (.const (.int .i64 0))), .keep [0]]) (.seq (.reg [.op none (.mv 4 (.tmp 0)), .op none (.nilc 5 (.tmp 4)), .op none (.faddr 6 3 (.tmp 5)), .op none (.load 7 false 1 (.tmp 6)), .op none (.mv 3 (.tmp 7)), .keep [0, 3]]) (.seq (.block 0 (.gh (.loop (.ga C141_l0)))) (.seq (.reg [.op none (.mv 14 (.tmp 3)), .op none (.mv 2 (.tmp 14)), .keep [2]]) (.ret))))
def r141 : List RV := [.tmp 2]
theorem k141 : compC Try.prog 15 C141 (Try.f141.body.getD .skip) = some C141.erase := by kernel_rfl
theorem q141 : rvsOf Try.prog Try.f141.results.toList = some r141 := by kernel_rfl
def spec_l5Next.l0 (x0_1 : Int) (x0_2 : Int) (x0_3 : (List Int)) (x0_4 : Int) (x0_5 : Int) (x0_6 : Bool) (x0_0 : Int) : Option Int := (spec_l5At.f x0_1 x0_2 x0_3 x0_4 x0_5 x0_6 x0_0 >>= fun t7 => (if t7 ≥ 0 then (spec_l5Next.l0 x0_1 x0_2 x0_3 x0_4 x0_5 x0_6 (IntKind.i64.wrap (x0_0 + 1))) else (some x0_0)))
 partial_fixpoint
def spec_l5Next.f (a0_0 : Int) (a0_1 : Int) (l0_2 : List Int) (a0_3 : Int) (a0_4 : Int) (a0_5 : Bool) : Option Int := (spec_l5Next.l0 a0_0 a0_1 l0_2 a0_3 a0_4 a0_5 a0_3 >>= fun (y12 : Int) => (some y12))
def spec_l5Next.l0_M (x0_1 : Int) (x0_2 : Int) (x0_3 : (List Int)) (x0_4 : Int) (x0_5 : Int) (x0_6 : Bool) (x0_0 : Int) (y : Int) : Prop := ∀ (K : AE → St → Prop), (K (.exit 0) ⟨[(3, .c (.sc (.int .i64 y)))], [(.arg 0, ⟨.box, 0, [.sc (.int .u64 x0_1), .sc (.int .i64 x0_2), .own 1 x0_3.length (encL c_i64 x0_3), .sc (.int .i64 x0_4), .sc (.int .u64 x0_5), .sc (.bool x0_6)]⟩)], [], []⟩) → loopS Try.prog 15 (.ga C141_l0) K ⟨[(0, .c (.ptr (.arg 0) [] 0)), (3, .c (.sc (.int .i64 x0_0)))], [(.arg 0, ⟨.box, 0, [.sc (.int .u64 x0_1), .sc (.int .i64 x0_2), .own 1 x0_3.length (encL c_i64 x0_3), .sc (.int .i64 x0_4), .sc (.int .u64 x0_5), .sc (.bool x0_6)]⟩)], [], []⟩
theorem spec_l5Next.l0_walk (x0_1 : Int) (x0_2 : Int) (x0_3 : (List Int)) (x0_4 : Int) (x0_5 : Int) (x0_6 : Bool) (x0_0 : Int) (y : Int) (h : spec_l5Next.l0 x0_1 x0_2 x0_3 x0_4 x0_5 x0_6 x0_0 = some y) : spec_l5Next.l0_M x0_1 x0_2 x0_3 x0_4 x0_5 x0_6 x0_0 y := by
 refine spec_l5Next.l0.partial_correctness x0_1 x0_2 x0_3 x0_4 x0_5 x0_6 (motive := fun x0_0 y => spec_l5Next.l0_M x0_1 x0_2 x0_3 x0_4 x0_5 x0_6 x0_0 y) ?_ x0_0 y h
 clear h
 unfold spec_l5Next.l0_M
 intro rec ih x0_0 y h K hx0
 refine loop_unroll (ga_k fun G0 G0n G0r G0x => ?_)
 unfold C141_l0
 refine seq_k fun J5 hJ5 => ?_
 refine sr_k fun J6 hJ6 => ?_
 simp +decide only [Nat.reduceAdd, Nat.reduceMul, Int.reduceToNat, ak]
 obtain ⟨t7, h8, h⟩ := of_bind h
 refine call_m [(.arg 0, ⟨(.arg 0), [], none, .box⟩)] (s0 := [(.arg 0, ⟨.box, 0, [.sc (.int .u64 x0_1), .sc (.int .i64 x0_2), .own 1 x0_3.length (encL c_i64 x0_3), .sc (.int .i64 x0_4), .sc (.int .u64 x0_5), .sc (.bool x0_6)]⟩)]) (by intro t ht; cases ht; decide) rfl rfl (by first | rfl | simp only [reduceCtorEq, Nat.reduceEqDiff, ak, akF]) (spec_l5At.tri x0_1 x0_2 x0_3 x0_4 x0_5 x0_6 x0_0 _ h8) (by first | rfl | simp only [reduceCtorEq, Nat.reduceEqDiff, ak, akF]) (by simp [bkOk2, memK]) (fun hl8 => ?_)
 refine call_st (s4 := [(.arg 0, ⟨.box, 0, [.sc (.int .u64 x0_1), .sc (.int .i64 x0_2), .own 1 x0_3.length (encL c_i64 x0_3), .sc (.int .i64 x0_4), .sc (.int .u64 x0_5), .sc (.bool x0_6)]⟩)]) (m1' := []) (m2' := []) (v' := .c (.sc (.int .i64 t7))) (Sto.mapN_killNil _ _) (mrgL_whole (new' := [.sc (.int .u64 x0_1), .sc (.int .i64 x0_2), .own 1 x0_3.length (encL c_i64 x0_3), .sc (.int .i64 x0_4), .sc (.int .u64 x0_5), .sc (.bool x0_6)]) (mrgL_nil' _ _ _) rfl (by rfl) (.inl ⟨rfl, by first | rfl | simp only [reduceCtorEq, Nat.reduceEqDiff, ak, akF, Nat.zero_add, List.append_nil]⟩)) (by rfl) (mapT_killNil _ _) (by rfl) (by rfl) (by first | rfl | simp only [reduceCtorEq, Nat.reduceEqDiff, ak, akF, Nat.zero_add, List.append_nil]) ?_
 simp +decide only [Nat.reduceAdd, Nat.reduceMul, Int.reduceToNat, ak]
 refine hJ6 _ ?_
 refine cond_k (b := decide (t7 ≥ 0)) rfl (fun c10 => ?_) (fun c10 => ?_)
 ·replace c10 := of_decide_eq_true c10; rw [if_pos c10] at h
  refine hJ5 _ ?_
  refine block_k fun B11 B11n B11x B11r B11j => ?_
  refine reg_k ?_
  simp +decide only [Nat.reduceAdd, Nat.reduceMul, Int.reduceToNat, ak]
  refine B11n _ ?_
  refine G0n _ _ (wk [0, 3] [pI (.arg 0) .box]) (ih _ _ h K hx0)
 ·replace c10 := of_decide_eq_false c10; rw [if_neg c10] at h
  obtain rfl := Option.some.inj h
  refine gh_k (wk [3] [pI (.arg 0) .box]) ?_
  refine G0x _ _ ?_
  exact hx0
theorem spec_l5Next.tri (a0_0 : Int) (a0_1 : Int) (l0_2 : List Int) (a0_3 : Int) (a0_4 : Int) (a0_5 : Bool) (r : Int) (h : spec_l5Next.f a0_0 a0_1 l0_2 a0_3 a0_4 a0_5 = some r) : Tri Try.prog 141 [.c (.ptr (.arg 0) [] 0)] [(.arg 0, ⟨.box, 0, [.sc (.int .u64 a0_0), .sc (.int .i64 a0_1), .own 1 l0_2.length (encL c_i64 l0_2), .sc (.int .i64 a0_3), .sc (.int .u64 a0_4), .sc (.bool a0_5)]⟩)] (fun o => o = ⟨.c (.sc (.int .i64 r)), [(.arg 0, ⟨.box, 0, [.sc (.int .u64 a0_0), .sc (.int .i64 a0_1), .own 1 l0_2.length (encL c_i64 l0_2), .sc (.int .i64 a0_3), .sc (.int .u64 a0_4), .sc (.bool a0_5)]⟩)], [], []⟩) := by
 refine tri_of_body (ac := C141) (xs := r141) Try.func141 (show Try.f141.body = some (Try.f141.body.getD .skip) from rfl) k141 q141 (Nat.le_of_ble_eq_true rfl) ?_
 refine body_of fun K hKn hKr => ?_
 unfold spec_l5Next.f at h
 unfold C141
 simp only [initT, Nat.reduceAdd]
 refine sr_k fun J1 hJ1 => ?_
 simp +decide only [Nat.reduceAdd, Nat.reduceMul, Int.reduceToNat, ak]
 refine hJ1 _ ?_
 refine sr_k fun J2 hJ2 => ?_
 simp +decide only [Nat.reduceAdd, Nat.reduceMul, Int.reduceToNat, ak]
 refine hJ2 _ ?_
 refine seq_k fun J3 hJ3 => ?_
 refine block_k fun B4 B4n B4x B4r B4j => ?_
 obtain ⟨y12, h13, h⟩ := of_bind h
 refine gh_k (wk [0, 3] [pI (.arg 0) .box]) ?_
 rw [e_loop]
 refine spec_l5Next.l0_walk a0_0 a0_1 l0_2 a0_3 a0_4 a0_5 a0_3 _ h13 _ ?_
 refine B4x _ ?_
 refine hJ3 _ ?_
 refine sr_k fun J14 hJ14 => ?_
 simp +decide only [Nat.reduceAdd, Nat.reduceMul, Int.reduceToNat, ak]
 refine hJ14 _ ?_
 obtain rfl := Option.some.inj h
 refine hKr _ ⟨_, rfl, [], _, rfl, rfl, ?_⟩
 first | rfl | (simp only [reduceCtorEq, Nat.reduceEqDiff, ak, akF]; done) | (simp [reduceCtorEq, Nat.reduceEqDiff, ak, akF] <;> omega)
/-! ### spec.l5Byte: function 115 -/
def C115 : AC := .seq (.reg [.op none (.mv 2 (.const (.int .u8 0))), .keep [0]]) (.seq (.reg [.op none (.mv 3 (.tmp 0)), .op none (.bin 4 .mul (.tmp 3) (.const (.int .i64 7))), .op none (.mv 5 (.tmp 0)), .op none (.bin 6 .quo (.tmp 5) (.const (.int .i64 11))), .op none (.bin 7 .add (.tmp 4) (.tmp 6)), .op none (.conv 8 .u8 (.tmp 7)), .op none (.mv 2 (.tmp 8)), .keep [2]]) (.ret))
def r115 : List RV := [.tmp 2]
theorem k115 : compC Try.prog 9 C115 (Try.f115.body.getD .skip) = some C115.erase := by kernel_rfl
theorem q115 : rvsOf Try.prog Try.f115.results.toList = some r115 := by kernel_rfl
def spec_l5Byte.f (a0 : Int) : Option Int := (some (IntKind.u8.wrap (IntKind.i64.wrap ((IntKind.i64.wrap (a0 * 7)) + (IntKind.i64.wrap (a0.tdiv 11))))))
theorem spec_l5Byte.tri (a0 : Int) (r : Int) (h : spec_l5Byte.f a0 = some r) : Tri Try.prog 115 [.c (.sc (.int .i64 a0))] [] (fun o => o = ⟨.c (.sc (.int .u8 r)), [], [], []⟩) := by
 refine tri_of_body (ac := C115) (xs := r115) Try.func115 (show Try.f115.body = some (Try.f115.body.getD .skip) from rfl) k115 q115 (Nat.le_of_ble_eq_true rfl) ?_
 refine body_of fun K hKn hKr => ?_
 unfold spec_l5Byte.f at h
 unfold C115
 simp only [initT, Nat.reduceAdd]
 refine sr_k fun J1 hJ1 => ?_
 simp +decide only [Nat.reduceAdd, Nat.reduceMul, Int.reduceToNat, ak]
 refine hJ1 _ ?_
 refine sr_k fun J2 hJ2 => ?_
 simp +decide only [Nat.reduceAdd, Nat.reduceMul, Int.reduceToNat, ak, ne_lit]
 refine hJ2 _ ?_
 obtain rfl := Option.some.inj h
 refine hKr _ ⟨_, rfl, [], _, rfl, rfl, ?_⟩
 first | rfl | (simp only [reduceCtorEq, Nat.reduceEqDiff, ak, akF]; done) | (simp [reduceCtorEq, Nat.reduceEqDiff, ak, akF] <;> omega)
/-! ### spec.l1DrawBytes: function 116 -/
def C116_l0 : AC := .seq (.seq (.reg [.op none (.mv 8 (.tmp 6)), .op none (.mv 9 (.tmp 1)), .op none (.bin 10 .lss (.tmp 8) (.tmp 9)), .keep [0, 1, 5, 6, 10]]) (.cond (.tmp 10) (.skip) (.gh (.exit 0)))) (.seq (.block 1 (.reg [.op none (.mv 13 (.tmp 5)), .op none (.mv 14 (.tmp 0)), .call none (some 15) 69 [.tmp 14, .const (.int .i64 256)], .op none (.conv 16 .u8 (.tmp 15)), .op none (.bslice 17 1 [.int .u8 0] 1 [(0, .tmp 16)]), .op none (.app 18 1 1 true (.tmp 13) (.tmp 17)), .op none (.mv 5 (.tmp 18)), .keep [0, 1, 5, 6]])) (.reg [.op none (.mv 11 (.tmp 6)), .op none (.bin 12 .add (.tmp 11) (.const (.int .i64 1))), .op none (.mv 6 (.tmp 12)), .keep [0, 1, 5, 6]]))
def C116 : AC := .seq (.reg [.op none (.mv 4 (.const (.slice none 0 0))), .gh, .keep [0, 1]]) (.seq (.reg [.op none (.bslice 7 1 [.int .u8 0] 0 []), .op none (.mv 5 (.tmp 7)), .keep [0, 1, 5]]) (.seq (.seq (.reg [.op none (.mv 6 (.const (.int .i64 0))), .keep [0, 1, 5, 6]]) (.block 0 (.gh (.loop (.ga C116_l0))))) (.seq (.reg [.op none (.mv 19 (.tmp 5)), .op none (.mv 4 (.tmp 19)), .keep [4]]) (.ret))))
def r116 : List RV := [.tmp 4]
theorem k116 : compC Try.prog 20 C116 (Try.f116.body.getD .skip) = some C116.erase := by kernel_rfl
theorem q116 : rvsOf Try.prog Try.f116.results.toList = some r116 := by kernel_rfl
def spec_l1DrawBytes.l0 (l0_0 : List Int) (x0_0 : Int) (x0_1 : Int) (x0_2 : Int) (x0_3 : Int) (x0_4 : (List Int)) : Option (Int × Int × (List Int)) := (if x0_1 < x0_0 then (spec_l1Next.f l0_0 x0_2 x0_3 256 >>= fun t14 => (if (x0_4.length + 1) * 1 ≤ 140737488355328 then (spec_l1DrawBytes.l0 l0_0 x0_0 (IntKind.i64.wrap (x0_1 + 1)) t14.2.1 t14.2.2 (x0_4 ++ ([IntKind.u8.wrap t14.1] : List Int))) else none)) else (some (x0_2, x0_3, x0_4)))
 partial_fixpoint
def spec_l1DrawBytes.f (l0_0 : List Int) (a0_1 : Int) (a0_2 : Int) (a1 : Int) : Option ((List Int) × Int × Int) := (spec_l1DrawBytes.l0 l0_0 a1 0 a0_1 a0_2 ([] : List Int) >>= fun (y26 : (Int × Int × (List Int))) => (some (y26.2.2, y26.1, y26.2.1)))
def spec_l1DrawBytes.l0_M (cs1 : List Cell) (o1 : Nat) (l0_0 : List Int) (hv1 : Vw c_u8 1 cs1 o1 l0_0) (x0_0 : Int) (x0_1 : Int) (x0_2 : Int) (x0_3 : Int) (x0_4 : (List Int)) (y : (Int × Int × (List Int))) : Prop := ∀ (K : AE → St → Prop), (K (.exit 0) ⟨[(5, .c (.ref (.tmp 7 0) [] 0 y.2.2.length))], [(.arg 0, ⟨.box, 0, [.ref (.arg 1) [] o1 l0_0.length, .sc (.int .i64 y.1), .sc (.int .u64 y.2.1)]⟩), (.arg 1, ⟨.fz, 1, cs1⟩), (.tmp 7 0, ⟨.lst, 1, encL c_u8 y.2.2⟩)], [], []⟩) → loopS Try.prog 20 (.ga C116_l0) K ⟨[(0, .c (.ptr (.arg 0) [] 0)), (1, .c (.sc (.int .i64 x0_0))), (5, .c (.ref (.tmp 7 0) [] 0 x0_4.length)), (6, .c (.sc (.int .i64 x0_1)))], [(.arg 0, ⟨.box, 0, [.ref (.arg 1) [] o1 l0_0.length, .sc (.int .i64 x0_2), .sc (.int .u64 x0_3)]⟩), (.arg 1, ⟨.fz, 1, cs1⟩), (.tmp 7 0, ⟨.lst, 1, encL c_u8 x0_4⟩)], [], []⟩
theorem spec_l1DrawBytes.l0_walk (cs1 : List Cell) (o1 : Nat) (l0_0 : List Int) (hv1 : Vw c_u8 1 cs1 o1 l0_0) (x0_0 : Int) (x0_1 : Int) (x0_2 : Int) (x0_3 : Int) (x0_4 : (List Int)) (y : (Int × Int × (List Int))) (h : spec_l1DrawBytes.l0 l0_0 x0_0 x0_1 x0_2 x0_3 x0_4 = some y) : spec_l1DrawBytes.l0_M cs1 o1 l0_0 hv1 x0_0 x0_1 x0_2 x0_3 x0_4 y := by
 refine spec_l1DrawBytes.l0.partial_correctness l0_0 x0_0 (motive := fun x0_1 x0_2 x0_3 x0_4 y => spec_l1DrawBytes.l0_M cs1 o1 l0_0 hv1 x0_0 x0_1 x0_2 x0_3 x0_4 y) ?_ x0_1 x0_2 x0_3 x0_4 y h
 clear h
 unfold spec_l1DrawBytes.l0_M
 intro rec ih x0_1 x0_2 x0_3 x0_4 y h K hx0
 refine loop_unroll (ga_k fun G0 G0n G0r G0x => ?_)
 unfold C116_l0
 refine seq_k fun J9 hJ9 => ?_
 refine sr_k fun J10 hJ10 => ?_
 simp +decide only [Nat.reduceAdd, Nat.reduceMul, Int.reduceToNat, ak]
 refine hJ10 _ ?_
 refine cond_k (b := decide (x0_1 < x0_0)) rfl (fun c11 => ?_) (fun c11 => ?_)
 ·replace c11 := of_decide_eq_true c11; rw [if_pos c11] at h
  refine hJ9 _ ?_
  refine seq_k fun J12 hJ12 => ?_
  refine block_k fun B13 B13n B13x B13r B13j => ?_
  refine reg_k ?_
  simp +decide only [Nat.reduceAdd, Nat.reduceMul, Int.reduceToNat, ak]
  obtain ⟨t14, h15, h⟩ := of_bind h
  refine call_m [(.arg 0, ⟨(.arg 0), [], none, .box⟩), (.arg 1, ⟨(.arg 1), [], none, .fz⟩)] (s0 := [(.arg 0, ⟨.box, 0, [.ref (.arg 1) [] o1 l0_0.length, .sc (.int .i64 x0_2), .sc (.int .u64 x0_3)]⟩), (.arg 1, ⟨.fz, 1, cs1⟩)]) (by intro t ht; cases ht; decide) rfl rfl (by first | rfl | simp only [reduceCtorEq, Nat.reduceEqDiff, ak, akF]) (spec_l1Next.tri (cs1) o1 l0_0 hv1 x0_2 x0_3 256 _ h15) (by first | rfl | simp only [reduceCtorEq, Nat.reduceEqDiff, ak, akF]) (by simp [bkOk2, memK]) (fun hl15 => ?_)
  refine call_st (s4 := [(.arg 0, ⟨.box, 0, [.ref (.arg 1) [] o1 l0_0.length, .sc (.int .i64 t14.2.1), .sc (.int .u64 t14.2.2)]⟩), (.arg 1, ⟨.fz, 1, cs1⟩), (.tmp 7 0, ⟨.lst, 1, encL c_u8 x0_4⟩)]) (m1' := []) (m2' := []) (v' := .c (.sc (.int .i64 t14.1))) (Sto.mapN_killNil _ _) (mrgL_whole (new' := [.ref (.arg 1) [] o1 l0_0.length, .sc (.int .i64 t14.2.1), .sc (.int .u64 t14.2.2)]) (mrgL_fz (mrgL_nil' _ _ _) rfl (by first | rfl | simp only [reduceCtorEq, Nat.reduceEqDiff, ak]) rfl (by intro R hR hh; cases hR; cases hh.2)) rfl (by rfl) (.inl ⟨rfl, by first | rfl | simp only [reduceCtorEq, Nat.reduceEqDiff, ak, akF, Nat.zero_add, List.append_nil]⟩)) (by rfl) (mapT_killNil _ _) (by rfl) (by rfl) (by first | rfl | simp only [reduceCtorEq, Nat.reduceEqDiff, ak, akF, Nat.zero_add, List.append_nil]) ?_
  have g17 : (List.replicate 1 ([.int .u8 0] : List Value)).flatten = [.int .u8 0] := rfl
  have g18 : (⟨.lst, 1, [.sc (.int .u8 (IntKind.u8.wrap t14.1))]⟩ : Root) = ⟨.lst, 1, encL c_u8 ([IntKind.u8.wrap t14.1] : List Int)⟩ := rfl
  have g19 : ([IntKind.u8.wrap t14.1] : List Int).length = 1 := rfl
  have g20 : (encL c_u8 ([IntKind.u8.wrap t14.1] : List Int)).length = 1 * 1 := by simp [encL_length c_u8_w]
  have g21 : (encL c_u8 ([IntKind.u8.wrap t14.1] : List Int)).all nd = true := rfl
  obtain ⟨b22, h⟩ := of_guard h
  have g23 : appLim x0_4.length 1 1 := ⟨b22, by have := b22; omega⟩
  have g24 : (encL c_u8 x0_4).length = x0_4.length * 1 := by simp [encL_length c_u8_w]
  have g25 : encL c_u8 x0_4 ++ encL c_u8 ([IntKind.u8.wrap t14.1] : List Int) = encL c_u8 (x0_4 ++ ([IntKind.u8.wrap t14.1] : List Int)) := (encL_append _ _).symm
  simp +decide only [Nat.reduceAdd, Nat.reduceMul, Int.reduceToNat, ak, g17, g18, g19, g20, g21, g23, g24, g25]
  refine B13n _ ?_
  refine hJ12 _ ?_
  refine reg_k ?_
  simp +decide only [Nat.reduceAdd, Nat.reduceMul, Int.reduceToNat, ak]
  refine G0n _ _ (wk [0, 1, 5, 6] [pI (.arg 0) .box, pI (.arg 1) .fz, pI (.tmp 7 0) .lst] (h0 := by first | rfl | simp +decide only [ak, akF, b22]) (h := by first | rfl | (simp +decide only [ak, akF, b22]; done) | (simp +decide [ak, akF, b22] <;> omega))) (ih _ _ _ _ _ h K hx0)
 ·replace c11 := of_decide_eq_false c11; rw [if_neg c11] at h
  obtain rfl := Option.some.inj h
  refine gh_k (wk [5] [pI (.arg 0) .box, pI (.arg 1) .fz, pI (.tmp 7 0) .lst]) ?_
  refine G0x _ _ ?_
  exact hx0
theorem spec_l1DrawBytes.tri (cs1 : List Cell) (o1 : Nat) (l0_0 : List Int) (hv1 : Vw c_u8 1 cs1 o1 l0_0) (a0_1 : Int) (a0_2 : Int) (a1 : Int) (r : (List Int) × Int × Int) (h : spec_l1DrawBytes.f l0_0 a0_1 a0_2 a1 = some r) : Tri Try.prog 116 [.c (.ptr (.arg 0) [] 0), .c (.sc (.int .i64 a1))] [(.arg 0, ⟨.box, 0, [.ref (.arg 1) [] o1 l0_0.length, .sc (.int .i64 a0_1), .sc (.int .u64 a0_2)]⟩), (.arg 1, ⟨.fz, 1, cs1⟩)] (fun o => o = ⟨.c (.ref (.res 0) [] 0 r.1.length), [(.arg 0, ⟨.box, 0, [.ref (.arg 1) [] o1 l0_0.length, .sc (.int .i64 r.2.1), .sc (.int .u64 r.2.2)]⟩), (.arg 1, ⟨.fz, 1, cs1⟩), (.res 0, ⟨.lst, 1, encL c_u8 r.1⟩)], [], []⟩) := by
 refine tri_of_body (ac := C116) (xs := r116) Try.func116 (show Try.f116.body = some (Try.f116.body.getD .skip) from rfl) k116 q116 (Nat.le_of_ble_eq_true rfl) ?_
 refine body_of fun K hKn hKr => ?_
 unfold spec_l1DrawBytes.f at h
 unfold C116
 simp only [initT, Nat.reduceAdd]
 refine sr_k fun J1 hJ1 => ?_
 simp +decide only [Nat.reduceAdd, Nat.reduceMul, Int.reduceToNat, ak]
 refine gho_k (Weak.nm' 4 (.tmp 4 20) 1 (encL c_u8 ([] : List Int)) rfl rfl rfl) ?_
 simp +decide only [Nat.reduceAdd, Nat.reduceMul, Int.reduceToNat, ak]
 refine hJ1 _ ?_
 refine sr_k fun J2 hJ2 => ?_
 have g3 : (List.replicate 0 ([.int .u8 0] : List Value)).flatten = [] := rfl
 have g4 : (⟨.lst, 1, []⟩ : Root) = ⟨.lst, 1, encL c_u8 ([] : List Int)⟩ := rfl
 have g5 : ([] : List Int).length = 0 := rfl
 simp +decide only [Nat.reduceAdd, Nat.reduceMul, Int.reduceToNat, ak, g3, g4, g5]
 refine hJ2 _ ?_
 refine seq_k fun J6 hJ6 => ?_
 refine sr_k fun J7 hJ7 => ?_
 simp +decide only [Nat.reduceAdd, Nat.reduceMul, Int.reduceToNat, ak]
 refine hJ7 _ ?_
 refine block_k fun B8 B8n B8x B8r B8j => ?_
 obtain ⟨y26, h27, h⟩ := of_bind h
 refine gh_k (st' := ⟨[(0, .c (.ptr (.arg 0) [] 0)), (1, .c (.sc (.int .i64 a1))), (5, .c (.ref (.tmp 7 0) [] 0 (([] : List Int).length))), (6, .c (.sc (.int .i64 0)))], [(.arg 0, ⟨.box, 0, [.ref (.arg 1) [] o1 l0_0.length, .sc (.int .i64 a0_1), .sc (.int .u64 a0_2)]⟩), (.arg 1, ⟨.fz, 1, cs1⟩), (.tmp 7 0, ⟨.lst, 1, encL c_u8 ([] : List Int)⟩)], [], []⟩) (wk [0, 1, 5, 6] [pI (.arg 0) .box, pI (.arg 1) .fz, pI (.tmp 7 0) .lst] (h := by first | rfl | (simp +decide only [ak, akF]; done) | (simp +decide [ak, akF] <;> omega))) ?_
 rw [e_loop]
 refine spec_l1DrawBytes.l0_walk cs1 o1 l0_0 hv1 a1 0 a0_1 a0_2 ([] : List Int) _ h27 _ ?_
 refine B8x _ ?_
 refine hJ6 _ ?_
 refine sr_k fun J28 hJ28 => ?_
 simp +decide only [Nat.reduceAdd, Nat.reduceMul, Int.reduceToNat, ak]
 refine hJ28 _ ?_
 obtain rfl := Option.some.inj h
 refine hKr _ ⟨_, rfl, [⟨(.tmp 7 0), [], none, .lst⟩], _, rfl, rfl, ?_⟩
 first | rfl | (simp only [reduceCtorEq, Nat.reduceEqDiff, ak, akF]; done) | (simp [reduceCtorEq, Nat.reduceEqDiff, ak, akF] <;> omega)
/-! ### spec.l5Read: function 140 -/
def C140 : AC := .seq (.reg [.op none (.mv 2 (.const (.int .u64 0))), .keep [0]]) (.seq (.regD (.first (.op none (.mv 3 (.tmp 0))) (.first (.op none (.nilc 4 (.tmp 3))) (.first (.op none (.faddr 5 0 (.tmp 4))) (.first (.op none (.load 6 false 1 (.tmp 5))) (.first (.op none (.mv 7 (.tmp 0))) (.first (.op none (.nilc 8 (.tmp 7))) (.first (.op none (.faddr 9 3 (.tmp 8))) (.first (.op none (.load 10 false 1 (.tmp 9))) (.first (.op none (.conv 11 .u64 (.tmp 10))) (.first (.op none (.bin 12 .add (.tmp 6) (.tmp 11))) (.first (.op none (.mv 2 (.tmp 12))) (.done)))))))))))) [2]) (.ret))
def r140 : List RV := [.tmp 2]
theorem k140 : compC Try.prog 13 C140 (Try.f140.body.getD .skip) = some C140.erase := by kernel_rfl
theorem q140 : rvsOf Try.prog Try.f140.results.toList = some r140 := by kernel_rfl
def spec_l5Read.f (a0_0 : Int) (a0_1 : Int) (l0_2 : List Int) (a0_3 : Int) (a0_4 : Int) (a0_5 : Bool) : Option Int := (some (IntKind.u64.wrap (a0_0 + (IntKind.u64.wrap a0_3))))
theorem spec_l5Read.tri (a0_0 : Int) (a0_1 : Int) (l0_2 : List Int) (a0_3 : Int) (a0_4 : Int) (a0_5 : Bool) (r : Int) (h : spec_l5Read.f a0_0 a0_1 l0_2 a0_3 a0_4 a0_5 = some r) : Tri Try.prog 140 [.c (.ptr (.arg 0) [] 0)] [(.arg 0, ⟨.box, 0, [.sc (.int .u64 a0_0), .sc (.int .i64 a0_1), .own 1 l0_2.length (encL c_i64 l0_2), .sc (.int .i64 a0_3), .sc (.int .u64 a0_4), .sc (.bool a0_5)]⟩)] (fun o => o = ⟨.c (.sc (.int .u64 r)), [(.arg 0, ⟨.box, 0, [.sc (.int .u64 a0_0), .sc (.int .i64 a0_1), .own 1 l0_2.length (encL c_i64 l0_2), .sc (.int .i64 a0_3), .sc (.int .u64 a0_4), .sc (.bool a0_5)]⟩)], [], []⟩) := by
 refine tri_of_body (ac := C140) (xs := r140) Try.func140 (show Try.f140.body = some (Try.f140.body.getD .skip) from rfl) k140 q140 (Nat.le_of_ble_eq_true rfl) ?_
 refine body_of fun K hKn hKr => ?_
 unfold spec_l5Read.f at h
 unfold C140
 simp only [initT, Nat.reduceAdd]
 refine sr_k fun J1 hJ1 => ?_
 simp +decide only [Nat.reduceAdd, Nat.reduceMul, Int.reduceToNat, ak]
 refine hJ1 _ ?_
 refine sd_k fun J2 hJ2 => ?_
 simp +decide only [Nat.reduceAdd, Nat.reduceMul, Int.reduceToNat, ak]
 refine hJ2 _ ?_
 obtain rfl := Option.some.inj h
 refine hKr _ ⟨_, rfl, [], _, rfl, rfl, ?_⟩
 first | rfl | (simp only [reduceCtorEq, Nat.reduceEqDiff, ak, akF]; done) | (simp [reduceCtorEq, Nat.reduceEqDiff, ak, akF] <;> omega)
/-! ### spec.l5Put: function 155 -/
def C155_l1 : AC := .seq (.seq (.reg [.op none (.mv 82 (.tmp 0)), .op none (.nilc 83 (.tmp 82)), .op none (.faddr 84 2 (.tmp 83)), .op none (.load 85 false 1 (.tmp 84)), .op none (.len 86 (.tmp 85)), .op none (.mv 87 (.tmp 12)), .op none (.bin 88 .leq (.tmp 86) (.tmp 87)), .keep [0, 1, 2, 6, 9, 10, 12, 88]]) (.cond (.tmp 88) (.skip) (.gh (.exit 2)))) (.block 3 (.reg [.op none (.mv 89 (.tmp 0)), .op none (.mv 90 (.tmp 0)), .op none (.nilc 91 (.tmp 90)), .op none (.faddr 92 2 (.tmp 91)), .op none (.load 93 false 1 (.tmp 92)), .op none (.bslice 94 1 [.int .i64 0] 1 [(0, .const (.int .i64 (-1)))]), .op none (.app 95 1 8 true (.tmp 93) (.tmp 94)), .op none (.nilc 96 (.tmp 89)), .op none (.faddr 97 2 (.tmp 96)), .op none (.store 1 (.tmp 97) (.tmp 95)), .keep [0, 1, 2, 6, 9, 10, 12]]))
def C155_l0 : AC := .seq (.seq (.reg [.op none (.mv 61 (.tmp 10)), .op none (.mv 62 (.tmp 2)), .op none (.len 63 (.tmp 62)), .op none (.bin 64 .lss (.tmp 61) (.tmp 63)), .keep [0, 1, 2, 6, 9, 10, 64]]) (.cond (.tmp 64) (.skip) (.gh (.exit 0)))) (.seq (.ga (.block 1 (.seq (.reg [.op none (.mv 67 (.tmp 1)), .op none (.mv 68 (.tmp 10)), .op none (.conv 69 .u64 (.tmp 68)), .op none (.bin 70 .add (.tmp 67) (.tmp 69)), .op none (.mv 11 (.tmp 70)), .keep [0, 1, 2, 6, 9, 10, 11]]) (.seq (.seq (.reg [.op none (.mv 71 (.tmp 11)), .op none (.mv 72 (.tmp 0)), .call none (some 73) 140 [.tmp 72], .op none (.bin 74 .lss (.tmp 71) (.tmp 73)), .keep [0, 1, 2, 6, 9, 10, 11, 74]]) (.cond (.tmp 74) (.exit 1) (.skip))) (.seq (.reg [.op none (.mv 75 (.tmp 11)), .op none (.mv 76 (.tmp 0)), .op none (.nilc 77 (.tmp 76)), .op none (.faddr 78 0 (.tmp 77)), .op none (.load 79 false 1 (.tmp 78)), .op none (.bin 80 .sub (.tmp 75) (.tmp 79)), .op none (.conv 81 .i64 (.tmp 80)), .op none (.mv 12 (.tmp 81)), .keep [0, 1, 2, 6, 9, 10, 12]]) (.seq (.block 2 (.gh (.loop (.ga C155_l1)))) (.seq (.reg [.op none (.mv 98 (.tmp 0)), .op none (.nilc 99 (.tmp 98)), .op none (.faddr 100 2 (.tmp 99)), .op none (.load 101 false 1 (.tmp 100)), .op none (.mv 102 (.tmp 12)), .op none (.iaddr 103 1 (.tmp 101) (.tmp 102)), .op none (.load 104 false 1 (.tmp 103)), .op none (.bin 105 .lss (.tmp 104) (.const (.int .i64 0))), .keep [0, 1, 2, 6, 9, 10, 12, 105]]) (.cond (.tmp 105) (.seq (.regD (.first (.op none (.mv 106 (.tmp 0))) (.first (.op none (.nilc 107 (.tmp 106))) (.first (.op none (.faddr 108 2 (.tmp 107))) (.first (.op none (.load 109 false 1 (.tmp 108))) (.first (.op none (.mv 110 (.tmp 12))) (.first (.op none (.mv 111 (.tmp 2))) (.first (.op none (.mv 112 (.tmp 10))) (.first (.op none (.iaddr 113 1 (.tmp 111) (.tmp 112))) (.first (.op none (.load 114 false 1 (.tmp 113))) (.first (.op none (.conv 115 .i64 (.tmp 114))) (.first (.op none (.iaddr 116 1 (.tmp 109) (.tmp 110))) (.alt (.op none (.store 1 (.tmp 116) (.tmp 115))) none (.done) (.stop))))))))))))) [0, 1, 2, 6, 9, 10]) (.reg [.op none (.mv 117 (.tmp 9)), .op none (.bin 118 .add (.tmp 117) (.const (.int .i64 1))), .op none (.mv 9 (.tmp 118)), .keep [0, 1, 2, 6, 9, 10]])) (.skip))))))))) (.reg [.op none (.mv 65 (.tmp 10)), .op none (.bin 66 .add (.tmp 65) (.const (.int .i64 1))), .op none (.mv 10 (.tmp 66)), .keep [0, 1, 2, 6, 9, 10]]))
def C155 : AC := .seq (.reg [.op none (.alloc 6 [.int .i64 0, .int .i64 0, .slice none 0 0]), .gh, .keep [0, 1, 2, 6]]) (.seq (.seq (.ga (.reg [.op none (.mv 13 (.tmp 2)), .op none (.len 14 (.tmp 13)), .op none (.bin 15 .lss (.tmp 14) (.const (.int .i64 1))), .op none (.mv 16 (.tmp 15)), .op (some (16, false)) (.mv 17 (.tmp 2)), .op (some (16, false)) (.len 18 (.tmp 17)), .op (some (16, false)) (.bin 19 .gtr (.tmp 18) (.const (.int .i64 32))), .op none (.pick 20 (.tmp 16) (.const (.bool true)) (.tmp 19)), .keep [0, 1, 2, 6, 20]])) (.cond (.tmp 20) (.seq (.reg [.op none (.build 21 [.int .i64 0, .int .i64 0, .slice none 0 0] [(0, 1, .const (.int .i64 1))]), .gh, .op none (.store 3 (.tmp 6) (.tmp 21)), .keep [6]]) (.gh .ret)) (.skip))) (.seq (.regD (.first (.op none (.mv 22 (.tmp 0))) (.first (.op none (.mv 24 (.tmp 0))) (.first (.op none (.nilc 25 (.tmp 24))) (.first (.op none (.faddr 26 1 (.tmp 25))) (.pin [8, 7, 6] (.op none (.load 27 false 1 (.tmp 26))) (.pin [8, 7] (.op none (.conv 28 .u64 (.tmp 27))) (.alt (.call none (some 23) 140 [.tmp 22]) none (.pin [8] (.op none (.bin 29 .add (.tmp 23) (.tmp 28))) (.pin [] (.op none (.mv 7 (.tmp 29))) (.done))) (.stop)))))))) [0, 1, 2, 6, 7]) (.seq (.seq (.ga (.reg [.op none (.mv 30 (.tmp 1)), .op none (.mv 31 (.tmp 7)), .op none (.bin 32 .gtr (.tmp 30) (.tmp 31)), .op none (.mv 33 (.tmp 32)), .op (some (33, false)) (.mv 34 (.tmp 2)), .op (some (33, false)) (.len 35 (.tmp 34)), .op (some (33, false)) (.conv 36 .u64 (.tmp 35)), .op (some (33, false)) (.mv 37 (.tmp 7)), .op (some (33, false)) (.mv 38 (.tmp 1)), .op (some (33, false)) (.bin 39 .sub (.tmp 37) (.tmp 38)), .op (some (33, false)) (.bin 40 .gtr (.tmp 36) (.tmp 39)), .op none (.pick 41 (.tmp 33) (.const (.bool true)) (.tmp 40)), .keep [0, 1, 2, 6, 41]])) (.cond (.tmp 41) (.seq (.reg [.op none (.build 42 [.int .i64 0, .int .i64 0, .slice none 0 0] [(0, 1, .const (.int .i64 4))]), .gh, .op none (.store 3 (.tmp 6) (.tmp 42)), .keep [6]]) (.gh .ret)) (.skip))) (.seq (.reg [.op none (.mv 43 (.tmp 1)), .op none (.mv 44 (.tmp 2)), .op none (.len 45 (.tmp 44)), .op none (.conv 46 .u64 (.tmp 45)), .op none (.bin 47 .add (.tmp 43) (.tmp 46)), .op none (.mv 8 (.tmp 47)), .keep [0, 1, 2, 6, 8]]) (.seq (.seq (.ga (.reg [.op none (.mv 48 (.tmp 0)), .op none (.nilc 49 (.tmp 48)), .op none (.faddr 50 5 (.tmp 49)), .op none (.load 51 false 1 (.tmp 50)), .op none (.mv 52 (.tmp 51)), .op (some (52, true)) (.mv 53 (.tmp 8)), .op (some (52, true)) (.mv 54 (.tmp 0)), .op (some (52, true)) (.nilc 55 (.tmp 54)), .op (some (52, true)) (.faddr 56 4 (.tmp 55)), .op (some (52, true)) (.load 57 false 1 (.tmp 56)), .op (some (52, true)) (.bin 58 .gtr (.tmp 53) (.tmp 57)), .op none (.pick 59 (.tmp 52) (.tmp 58) (.const (.bool false))), .keep [0, 1, 2, 6, 59]])) (.cond (.tmp 59) (.seq (.reg [.op none (.build 60 [.int .i64 0, .int .i64 0, .slice none 0 0] [(0, 1, .const (.int .i64 12))]), .gh, .op none (.store 3 (.tmp 6) (.tmp 60)), .keep [6]]) (.gh .ret)) (.skip))) (.seq (.reg [.op none (.mv 9 (.const (.int .i64 0))), .keep [0, 1, 2, 6, 9]]) (.seq (.seq (.reg [.op none (.mv 10 (.const (.int .i64 0))), .keep [0, 1, 2, 6, 9, 10]]) (.block 0 (.gh (.loop (.ga C155_l0))))) (.seq (.reg [.op none (.mv 119 (.tmp 9)), .op none (.build 120 [.int .i64 0, .int .i64 0, .slice none 0 0] [(1, 1, .tmp 119)]), .gh, .op none (.store 3 (.tmp 6) (.tmp 120)), .keep [6]]) (.gh .ret)))))))))
def r155 : List RV := [.cell 6 true 3]
theorem k155 : compC Try.prog 121 C155 (Try.f155.body.getD .skip) = some C155.erase := by kernel_rfl
theorem q155 : rvsOf Try.prog Try.f155.results.toList = some r155 := by kernel_rfl
def spec_l5Put.l1 (x1_0 : Int) (x1_1 : Int) (x1_2 : Int) (x1_3 : Int) (x1_4 : Int) (x1_5 : Int) (x1_7 : Int) (x1_8 : Int) (x1_9 : Bool) (x1_10 : Int) (x1_11 : Int) (x1_12 : (List Int)) (x1_6 : (List Int)) : Option (List Int) := (if (x1_6.length : Int) ≤ x1_3 then (if (x1_6.length + 1) * 8 ≤ 140737488355328 then (spec_l5Put.l1 x1_0 x1_1 x1_2 x1_3 x1_4 x1_5 x1_7 x1_8 x1_9 x1_10 x1_11 x1_12 (x1_6 ++ ([(-1)] : List Int))) else none) else (some x1_6))
 partial_fixpoint
def spec_l5Put.l0 (l2 : List Int) (x0_0 : Int) (x0_3 : Int) (x0_4 : Int) (x0_6 : Int) (x0_7 : Int) (x0_8 : Bool) (x0_9 : Int) (x0_10 : Int) (x0_11 : (List Int)) (x0_1 : Int) (x0_2 : Int) (x0_5 : (List Int)) : Option (Int × (List Int)) := (if x0_2 < (l2.length : Int) then ((spec_l5Read.f x0_3 x0_4 x0_5 x0_6 x0_7 x0_8 >>= fun t56 => (if IntKind.u64.wrap (x0_0 + (IntKind.u64.wrap x0_2)) < t56 then (some (x0_1, x0_5)) else (spec_l5Put.l1 x0_0 x0_1 x0_2 (IntKind.i64.wrap (IntKind.u64.wrap ((IntKind.u64.wrap (x0_0 + (IntKind.u64.wrap x0_2))) - x0_3))) x0_3 x0_4 x0_6 x0_7 x0_8 x0_9 x0_10 x0_11 x0_5 >>= fun (y77 : (List Int)) => (if 0 ≤ IntKind.i64.wrap (IntKind.u64.wrap ((IntKind.u64.wrap (x0_0 + (IntKind.u64.wrap x0_2))) - x0_3)) ∧ IntKind.i64.wrap (IntKind.u64.wrap ((IntKind.u64.wrap (x0_0 + (IntKind.u64.wrap x0_2))) - x0_3)) < (y77.length : Int) then (if (rd 0 y77 (IntKind.i64.wrap (IntKind.u64.wrap ((IntKind.u64.wrap (x0_0 + (IntKind.u64.wrap x0_2))) - x0_3)))) < 0 then (if 0 ≤ x0_2 ∧ x0_2 < (l2.length : Int) then (some (IntKind.i64.wrap (x0_1 + 1), (y77.set (IntKind.i64.wrap (IntKind.u64.wrap ((IntKind.u64.wrap (x0_0 + (IntKind.u64.wrap x0_2))) - x0_3))).toNat (IntKind.i64.wrap (rd 0 l2 x0_2))))) else none) else (some (x0_1, y77))) else none)))) >>= fun (j48 : Int × (List Int)) => (spec_l5Put.l0 l2 x0_0 x0_3 x0_4 x0_6 x0_7 x0_8 x0_9 x0_10 x0_11 j48.1 (IntKind.i64.wrap (x0_2 + 1)) j48.2)) else (some (x0_1, x0_5)))
 partial_fixpoint
def spec_l5Put.f (a0_0 : Int) (a0_1 : Int) (l0_2 : List Int) (a0_3 : Int) (a0_4 : Int) (a0_5 : Bool) (a1 : Int) (l2 : List Int) : Option (Int × Int × (List Int) × (List Int)) := ((if (l2.length : Int) < 1 then (some true) else (some (decide ((l2.length : Int) > 32)))) >>= fun (j3 : Bool) => (if j3 = true then (some (1, 0, ([] : List Int), l0_2)) else (spec_l5Read.f a0_0 a0_1 l0_2 a0_3 a0_4 a0_5 >>= fun t14 => ((if a1 > IntKind.u64.wrap (t14 + (IntKind.u64.wrap a0_1)) then (some true) else (some (decide (IntKind.u64.wrap (l2.length : Int) > IntKind.u64.wrap ((IntKind.u64.wrap (t14 + (IntKind.u64.wrap a0_1))) - a1))))) >>= fun (j19 : Bool) => (if j19 = true then (some (4, 0, ([] : List Int), l0_2)) else ((if a0_5 = true then (some (decide (IntKind.u64.wrap (a1 + (IntKind.u64.wrap (l2.length : Int))) > a0_4))) else (some false)) >>= fun (j31 : Bool) => (if j31 = true then (some (12, 0, ([] : List Int), l0_2)) else (spec_l5Put.l0 l2 a1 a0_0 a0_1 a0_3 a0_4 a0_5 0 0 ([] : List Int) 0 0 l0_2 >>= fun (y92 : (Int × (List Int))) => (some (0, y92.1, ([] : List Int), y92.2))))))))))
def spec_l5Put.l1_M (cs1 : List Cell) (o1 : Nat) (l2 : List Int) (hv1 : Vw c_u8 1 cs1 o1 l2) (x1_0 : Int) (x1_1 : Int) (x1_2 : Int) (x1_3 : Int) (x1_4 : Int) (x1_5 : Int) (x1_7 : Int) (x1_8 : Int) (x1_9 : Bool) (x1_10 : Int) (x1_11 : Int) (x1_12 : (List Int)) (x1_6 : (List Int)) (y : (List Int)) : Prop := ∀ (K : AE → St → Prop), (K (.exit 2) ⟨[(0, .c (.ptr (.arg 0) [] 0)), (1, .c (.sc (.int .u64 x1_0))), (2, .c (.ref (.arg 1) [] o1 l2.length)), (6, .c (.ptr (.tmp 6 0) [] 0)), (9, .c (.sc (.int .i64 x1_1))), (10, .c (.sc (.int .i64 x1_2))), (12, .c (.sc (.int .i64 x1_3)))], [(.arg 0, ⟨.box, 0, [.sc (.int .u64 x1_4), .sc (.int .i64 x1_5), .own 1 y.length (encL c_i64 y), .sc (.int .i64 x1_7), .sc (.int .u64 x1_8), .sc (.bool x1_9)]⟩), (.arg 1, ⟨.fz, 1, cs1⟩), (.tmp 6 0, ⟨.box, 0, [.sc (.int .i64 x1_10), .sc (.int .i64 x1_11), .own 1 x1_12.length (encL c_u8 x1_12)]⟩)], [0], []⟩) → loopS Try.prog 121 (.ga C155_l1) K ⟨[(0, .c (.ptr (.arg 0) [] 0)), (1, .c (.sc (.int .u64 x1_0))), (2, .c (.ref (.arg 1) [] o1 l2.length)), (6, .c (.ptr (.tmp 6 0) [] 0)), (9, .c (.sc (.int .i64 x1_1))), (10, .c (.sc (.int .i64 x1_2))), (12, .c (.sc (.int .i64 x1_3)))], [(.arg 0, ⟨.box, 0, [.sc (.int .u64 x1_4), .sc (.int .i64 x1_5), .own 1 x1_6.length (encL c_i64 x1_6), .sc (.int .i64 x1_7), .sc (.int .u64 x1_8), .sc (.bool x1_9)]⟩), (.arg 1, ⟨.fz, 1, cs1⟩), (.tmp 6 0, ⟨.box, 0, [.sc (.int .i64 x1_10), .sc (.int .i64 x1_11), .own 1 x1_12.length (encL c_u8 x1_12)]⟩)], [0], []⟩
theorem spec_l5Put.l1_walk (cs1 : List Cell) (o1 : Nat) (l2 : List Int) (hv1 : Vw c_u8 1 cs1 o1 l2) (x1_0 : Int) (x1_1 : Int) (x1_2 : Int) (x1_3 : Int) (x1_4 : Int) (x1_5 : Int) (x1_7 : Int) (x1_8 : Int) (x1_9 : Bool) (x1_10 : Int) (x1_11 : Int) (x1_12 : (List Int)) (x1_6 : (List Int)) (y : (List Int)) (h : spec_l5Put.l1 x1_0 x1_1 x1_2 x1_3 x1_4 x1_5 x1_7 x1_8 x1_9 x1_10 x1_11 x1_12 x1_6 = some y) : spec_l5Put.l1_M cs1 o1 l2 hv1 x1_0 x1_1 x1_2 x1_3 x1_4 x1_5 x1_7 x1_8 x1_9 x1_10 x1_11 x1_12 x1_6 y := by
 refine spec_l5Put.l1.partial_correctness x1_0 x1_1 x1_2 x1_3 x1_4 x1_5 x1_7 x1_8 x1_9 x1_10 x1_11 x1_12 (motive := fun x1_6 y => spec_l5Put.l1_M cs1 o1 l2 hv1 x1_0 x1_1 x1_2 x1_3 x1_4 x1_5 x1_7 x1_8 x1_9 x1_10 x1_11 x1_12 x1_6 y) ?_ x1_6 y h
 clear h
 unfold spec_l5Put.l1_M
 intro rec ih x1_6 y h K hx0
 refine loop_unroll (ga_k fun G1 G1n G1r G1x => ?_)
 unfold C155_l1
 refine seq_k fun J63 hJ63 => ?_
 refine sr_k fun J64 hJ64 => ?_
 simp +decide only [Nat.reduceAdd, Nat.reduceMul, Int.reduceToNat, ak]
 refine hJ64 _ ?_
 refine cond_k (b := decide ((x1_6.length : Int) ≤ x1_3)) rfl (fun c65 => ?_) (fun c65 => ?_)
 ·replace c65 := of_decide_eq_true c65; rw [if_pos c65] at h
  refine hJ63 _ ?_
  refine block_k fun B66 B66n B66x B66r B66j => ?_
  refine reg_k ?_
  have g67 : (List.replicate 1 ([.int .i64 0] : List Value)).flatten = [.int .i64 0] := rfl
  have g68 : (⟨.lst, 1, [.sc (.int .i64 (-1))]⟩ : Root) = ⟨.lst, 1, encL c_i64 ([(-1)] : List Int)⟩ := rfl
  have g69 : ([(-1)] : List Int).length = 1 := rfl
  have g70 : (encL c_i64 ([(-1)] : List Int)).length = 1 * 1 := by simp [encL_length c_i64_w]
  have g71 : (encL c_i64 ([(-1)] : List Int)).all nd = true := rfl
  obtain ⟨b72, h⟩ := of_guard h
  have g73 : appLim x1_6.length 1 8 := ⟨b72, by have := b72; omega⟩
  have g74 : (encL c_i64 x1_6).length = x1_6.length * 1 := by simp [encL_length c_i64_w]
  have g75 : encL c_i64 x1_6 ++ encL c_i64 ([(-1)] : List Int) = encL c_i64 (x1_6 ++ ([(-1)] : List Int)) := (encL_append _ _).symm
  have g76 : (encL c_i64 (x1_6 ++ ([(-1)] : List Int))).length = (x1_6.length + 1) * 1 := by simp [encL_length c_i64_w]
  simp +decide only [Nat.reduceAdd, Nat.reduceMul, Int.reduceToNat, ak, g67, g68, g69, g70, g71, g73, g74, g75, g76]
  refine B66n _ ?_
  refine G1n _ _ (wkm [0] [] [0, 1, 2, 6, 9, 10, 12] [pI (.arg 0) .box, pI (.arg 1) .fz, pI (.tmp 6 0) .box] (h0 := by first | rfl | simp +decide only [ak, akF, b72]) (h := by first | rfl | (simp +decide only [ak, akF, b72]; done) | (simp +decide [ak, akF, b72] <;> omega))) (ih _ _ h K hx0)
 ·replace c65 := of_decide_eq_false c65; rw [if_neg c65] at h
  obtain rfl := Option.some.inj h
  refine gh_k (wkm [0] [] [0, 1, 2, 6, 9, 10, 12] [pI (.arg 0) .box, pI (.arg 1) .fz, pI (.tmp 6 0) .box]) ?_
  refine G1x _ _ ?_
  exact hx0
def spec_l5Put.l0_M (cs1 : List Cell) (o1 : Nat) (l2 : List Int) (hv1 : Vw c_u8 1 cs1 o1 l2) (x0_0 : Int) (x0_3 : Int) (x0_4 : Int) (x0_6 : Int) (x0_7 : Int) (x0_8 : Bool) (x0_9 : Int) (x0_10 : Int) (x0_11 : (List Int)) (x0_1 : Int) (x0_2 : Int) (x0_5 : (List Int)) (y : (Int × (List Int))) : Prop := ∀ (K : AE → St → Prop), (K (.exit 0) ⟨[(6, .c (.ptr (.tmp 6 0) [] 0)), (9, .c (.sc (.int .i64 y.1)))], [(.arg 0, ⟨.box, 0, [.sc (.int .u64 x0_3), .sc (.int .i64 x0_4), .own 1 y.2.length (encL c_i64 y.2), .sc (.int .i64 x0_6), .sc (.int .u64 x0_7), .sc (.bool x0_8)]⟩), (.arg 1, ⟨.fz, 1, cs1⟩), (.tmp 6 0, ⟨.box, 0, [.sc (.int .i64 x0_9), .sc (.int .i64 x0_10), .own 1 x0_11.length (encL c_u8 x0_11)]⟩)], [0], []⟩) → loopS Try.prog 121 (.ga C155_l0) K ⟨[(0, .c (.ptr (.arg 0) [] 0)), (1, .c (.sc (.int .u64 x0_0))), (2, .c (.ref (.arg 1) [] o1 l2.length)), (6, .c (.ptr (.tmp 6 0) [] 0)), (9, .c (.sc (.int .i64 x0_1))), (10, .c (.sc (.int .i64 x0_2)))], [(.arg 0, ⟨.box, 0, [.sc (.int .u64 x0_3), .sc (.int .i64 x0_4), .own 1 x0_5.length (encL c_i64 x0_5), .sc (.int .i64 x0_6), .sc (.int .u64 x0_7), .sc (.bool x0_8)]⟩), (.arg 1, ⟨.fz, 1, cs1⟩), (.tmp 6 0, ⟨.box, 0, [.sc (.int .i64 x0_9), .sc (.int .i64 x0_10), .own 1 x0_11.length (encL c_u8 x0_11)]⟩)], [0], []⟩
theorem spec_l5Put.l0_walk (cs1 : List Cell) (o1 : Nat) (l2 : List Int) (hv1 : Vw c_u8 1 cs1 o1 l2) (x0_0 : Int) (x0_3 : Int) (x0_4 : Int) (x0_6 : Int) (x0_7 : Int) (x0_8 : Bool) (x0_9 : Int) (x0_10 : Int) (x0_11 : (List Int)) (x0_1 : Int) (x0_2 : Int) (x0_5 : (List Int)) (y : (Int × (List Int))) (h : spec_l5Put.l0 l2 x0_0 x0_3 x0_4 x0_6 x0_7 x0_8 x0_9 x0_10 x0_11 x0_1 x0_2 x0_5 = some y) : spec_l5Put.l0_M cs1 o1 l2 hv1 x0_0 x0_3 x0_4 x0_6 x0_7 x0_8 x0_9 x0_10 x0_11 x0_1 x0_2 x0_5 y := by
 refine spec_l5Put.l0.partial_correctness l2 x0_0 x0_3 x0_4 x0_6 x0_7 x0_8 x0_9 x0_10 x0_11 (motive := fun x0_1 x0_2 x0_5 y => spec_l5Put.l0_M cs1 o1 l2 hv1 x0_0 x0_3 x0_4 x0_6 x0_7 x0_8 x0_9 x0_10 x0_11 x0_1 x0_2 x0_5 y) ?_ x0_1 x0_2 x0_5 y h
 clear h
 unfold spec_l5Put.l0_M
 intro rec ih x0_1 x0_2 x0_5 y h K hx0
 refine loop_unroll (ga_k fun G0 G0n G0r G0x => ?_)
 unfold C155_l0
 refine seq_k fun J45 hJ45 => ?_
 refine sr_k fun J46 hJ46 => ?_
 simp +decide only [Nat.reduceAdd, Nat.reduceMul, Int.reduceToNat, ak]
 refine hJ46 _ ?_
 refine cond_k (b := decide (x0_2 < (l2.length : Int))) rfl (fun c47 => ?_) (fun c47 => ?_)
 ·replace c47 := of_decide_eq_true c47; rw [if_pos c47] at h
  refine hJ45 _ ?_
  obtain ⟨j48, h49, hn⟩ := of_bind h
  refine seq_j (fun st => st = ⟨[(0, .c (.ptr (.arg 0) [] 0)), (1, .c (.sc (.int .u64 x0_0))), (2, .c (.ref (.arg 1) [] o1 l2.length)), (6, .c (.ptr (.tmp 6 0) [] 0)), (9, .c (.sc (.int .i64 j48.1))), (10, .c (.sc (.int .i64 x0_2)))], [(.arg 0, ⟨.box, 0, [.sc (.int .u64 x0_3), .sc (.int .i64 x0_4), .own 1 j48.2.length (encL c_i64 j48.2), .sc (.int .i64 x0_6), .sc (.int .u64 x0_7), .sc (.bool x0_8)]⟩), (.arg 1, ⟨.fz, 1, cs1⟩), (.tmp 6 0, ⟨.box, 0, [.sc (.int .i64 x0_9), .sc (.int .i64 x0_10), .own 1 x0_11.length (encL c_u8 x0_11)]⟩)], [0], []⟩) (fun J50 hJ50 => ?_) ?_
  ·replace h := h49; clear hn
   refine ga_k fun G51 G51n G51r G51x => ?_
   refine block_k fun B52 B52n B52x B52r B52j => ?_
   refine sr_k fun J53 hJ53 => ?_
   simp +decide only [Nat.reduceAdd, Nat.reduceMul, Int.reduceToNat, ak]
   refine hJ53 _ ?_
   refine seq_k fun J54 hJ54 => ?_
   refine sr_k fun J55 hJ55 => ?_
   simp +decide only [Nat.reduceAdd, Nat.reduceMul, Int.reduceToNat, ak]
   obtain ⟨t56, h57, h⟩ := of_bind h
   refine call_m [(.arg 0, ⟨(.arg 0), [], none, .box⟩)] (s0 := [(.arg 0, ⟨.box, 0, [.sc (.int .u64 x0_3), .sc (.int .i64 x0_4), .own 1 x0_5.length (encL c_i64 x0_5), .sc (.int .i64 x0_6), .sc (.int .u64 x0_7), .sc (.bool x0_8)]⟩)]) (by intro t ht; cases ht; decide) rfl rfl (by first | rfl | simp only [reduceCtorEq, Nat.reduceEqDiff, ak, akF]) (spec_l5Read.tri x0_3 x0_4 x0_5 x0_6 x0_7 x0_8 _ h57) (by first | rfl | simp only [reduceCtorEq, Nat.reduceEqDiff, ak, akF]) (by simp [bkOk2, memK]) (fun hl57 => ?_)
   refine call_st (s4 := [(.arg 0, ⟨.box, 0, [.sc (.int .u64 x0_3), .sc (.int .i64 x0_4), .own 1 x0_5.length (encL c_i64 x0_5), .sc (.int .i64 x0_6), .sc (.int .u64 x0_7), .sc (.bool x0_8)]⟩), (.arg 1, ⟨.fz, 1, cs1⟩), (.tmp 6 0, ⟨.box, 0, [.sc (.int .i64 x0_9), .sc (.int .i64 x0_10), .own 1 x0_11.length (encL c_u8 x0_11)]⟩)]) (m1' := [0]) (m2' := []) (v' := .c (.sc (.int .u64 t56))) (Sto.mapN_killNil _ _) (mrgL_whole (new' := [.sc (.int .u64 x0_3), .sc (.int .i64 x0_4), .own 1 x0_5.length (encL c_i64 x0_5), .sc (.int .i64 x0_6), .sc (.int .u64 x0_7), .sc (.bool x0_8)]) (mrgL_nil' _ _ _) rfl (by rfl) (.inl ⟨rfl, by first | rfl | simp only [reduceCtorEq, Nat.reduceEqDiff, ak, akF, Nat.zero_add, List.append_nil]⟩)) (by rfl) (mapT_killNil _ _) (by rfl) (by rfl) (by first | rfl | simp only [reduceCtorEq, Nat.reduceEqDiff, ak, akF, Nat.zero_add, List.append_nil]) ?_
   simp +decide only [Nat.reduceAdd, Nat.reduceMul, Int.reduceToNat, ak]
   refine hJ55 _ ?_
   refine cond_k (b := decide (IntKind.u64.wrap (x0_0 + (IntKind.u64.wrap x0_2)) < t56)) rfl (fun c59 => ?_) (fun c59 => ?_)
   ·replace c59 := of_decide_eq_true c59; rw [if_pos c59] at h
    refine B52x _ ?_
    obtain rfl := Option.some.inj h
    refine G51n _ _ (wkm [0] [] [0, 1, 2, 6, 9, 10] [pI (.arg 0) .box, pI (.arg 1) .fz, pI (.tmp 6 0) .box]) (hJ50 _ rfl)
   ·replace c59 := of_decide_eq_false c59; rw [if_neg c59] at h
    refine hJ54 _ ?_
    refine sr_k fun J60 hJ60 => ?_
    simp +decide only [Nat.reduceAdd, Nat.reduceMul, Int.reduceToNat, ak]
    refine hJ60 _ ?_
    refine seq_k fun J61 hJ61 => ?_
    refine block_k fun B62 B62n B62x B62r B62j => ?_
    obtain ⟨y77, h78, h⟩ := of_bind h
    refine gh_k (wkm [0] [] [0, 1, 2, 6, 9, 10, 12] [pI (.arg 0) .box, pI (.arg 1) .fz, pI (.tmp 6 0) .box]) ?_
    rw [e_loop]
    refine spec_l5Put.l1_walk cs1 o1 l2 hv1 x0_0 x0_1 x0_2 (IntKind.i64.wrap (IntKind.u64.wrap ((IntKind.u64.wrap (x0_0 + (IntKind.u64.wrap x0_2))) - x0_3))) x0_3 x0_4 x0_6 x0_7 x0_8 x0_9 x0_10 x0_11 x0_5 _ h78 _ ?_
    refine B62x _ ?_
    refine hJ61 _ ?_
    refine sr_k fun J79 hJ79 => ?_
    obtain ⟨b80, h⟩ := of_guard h
    have g81 : (encL c_i64 y77)[0 + (IntKind.i64.wrap (IntKind.u64.wrap ((IntKind.u64.wrap (x0_0 + (IntKind.u64.wrap x0_2))) - x0_3))).toNat * 1]? = some (.sc (.int .i64 (rd 0 y77 (IntKind.i64.wrap (IntKind.u64.wrap ((IntKind.u64.wrap (x0_0 + (IntKind.u64.wrap x0_2))) - x0_3)))))) := (Vw.whole c_i64_w y77).get 0 0 b80.1 b80.2 (by decide)
    simp +decide only [Nat.reduceAdd, Nat.reduceMul, Int.reduceToNat, ak, b80, g81]
    refine hJ79 _ ?_
    refine cond_k (b := decide ((rd 0 y77 (IntKind.i64.wrap (IntKind.u64.wrap ((IntKind.u64.wrap (x0_0 + (IntKind.u64.wrap x0_2))) - x0_3)))) < 0)) rfl (fun c82 => ?_) (fun c82 => ?_)
    ·replace c82 := of_decide_eq_true c82; rw [if_pos c82] at h
     refine sd_k fun J83 hJ83 => ?_
     obtain ⟨b84, h⟩ := of_guard h
     have g85 : (cs1)[o1 + x0_2.toNat * 1]? = some (.sc (.int .u8 (rd 0 l2 x0_2))) := hv1.get 0 0 b84.1 b84.2 (by decide)
     simp +decide only [Nat.reduceAdd, Nat.reduceMul, Int.reduceToNat, ak, b84, g85, b80]
     refine alt_e ?_
     ·have g89 : 0 + (IntKind.i64.wrap (IntKind.u64.wrap ((IntKind.u64.wrap (x0_0 + (IntKind.u64.wrap x0_2))) - x0_3))).toNat * 1 + 1 ≤ (encL c_i64 y77).length := (Vw.whole c_i64_w y77).le b80.1 b80.2 (j := 0) (q := 1) (by decide)
      have g90 : 0 + (IntKind.i64.wrap (IntKind.u64.wrap ((IntKind.u64.wrap (x0_0 + (IntKind.u64.wrap x0_2))) - x0_3))).toNat * 1 < (encL c_i64 y77).length := (Vw.whole c_i64_w y77).lt b80.1 b80.2 (j := 0) (by decide)
      have g91 : (encL c_i64 y77).set (0 + (IntKind.i64.wrap (IntKind.u64.wrap ((IntKind.u64.wrap (x0_0 + (IntKind.u64.wrap x0_2))) - x0_3))).toNat * 1) (.sc (.int .i64 (IntKind.i64.wrap (rd 0 l2 x0_2)))) = encL c_i64 (y77.set (IntKind.i64.wrap (IntKind.u64.wrap ((IntKind.u64.wrap (x0_0 + (IntKind.u64.wrap x0_2))) - x0_3))).toNat (IntKind.i64.wrap (rd 0 l2 x0_2))) := encL_put c_i64_w 0 b80.1 b80.2 (j := 0) (by decide) rfl
      simp +decide only [Nat.reduceAdd, Nat.reduceMul, Int.reduceToNat, ak, b80, g89, g90, g81, g91]
      refine hJ83 _ ?_
      refine reg_k ?_
      simp +decide only [Nat.reduceAdd, Nat.reduceMul, Int.reduceToNat, ak]
      refine B52n _ ?_
      obtain rfl := Option.some.inj h
      refine G51n _ _ (wkm [0] [] [0, 1, 2, 6, 9, 10] [pI (.arg 0) .box, pI (.arg 1) .fz, pI (.tmp 6 0) .box] (h0 := by first | rfl | simp +decide only [ak, akF, b80, b84]) (h := by first | rfl | (simp +decide only [ak, akF, b80, b84]; done) | (simp +decide [ak, akF, b80, b84] <;> omega))) (hJ50 _ rfl)
    ·replace c82 := of_decide_eq_false c82; rw [if_neg c82] at h
     refine B52n _ ?_
     obtain rfl := Option.some.inj h
     refine G51n _ _ (wkm [0] [] [0, 1, 2, 6, 9, 10] [pI (.arg 0) .box, pI (.arg 1) .fz, pI (.tmp 6 0) .box]) (hJ50 _ rfl)
  ·replace h := hn; clear hn h49
   rintro _ rfl
   refine reg_k ?_
   simp +decide only [Nat.reduceAdd, Nat.reduceMul, Int.reduceToNat, ak]
   refine G0n _ _ (wkm [0] [] [0, 1, 2, 6, 9, 10] [pI (.arg 0) .box, pI (.arg 1) .fz, pI (.tmp 6 0) .box]) (ih _ _ _ _ h K hx0)
 ·replace c47 := of_decide_eq_false c47; rw [if_neg c47] at h
  obtain rfl := Option.some.inj h
  refine gh_k (wkm [0] [] [6, 9] [pI (.arg 0) .box, pI (.arg 1) .fz, pI (.tmp 6 0) .box]) ?_
  refine G0x _ _ ?_
  exact hx0
theorem spec_l5Put.tri (cs1 : List Cell) (o1 : Nat) (l2 : List Int) (hv1 : Vw c_u8 1 cs1 o1 l2) (a0_0 : Int) (a0_1 : Int) (l0_2 : List Int) (a0_3 : Int) (a0_4 : Int) (a0_5 : Bool) (a1 : Int) (r : Int × Int × (List Int) × (List Int)) (h : spec_l5Put.f a0_0 a0_1 l0_2 a0_3 a0_4 a0_5 a1 l2 = some r) : Tri Try.prog 155 [.c (.ptr (.arg 0) [] 0), .c (.sc (.int .u64 a1)), .c (.ref (.arg 1) [] o1 l2.length)] [(.arg 0, ⟨.box, 0, [.sc (.int .u64 a0_0), .sc (.int .i64 a0_1), .own 1 l0_2.length (encL c_i64 l0_2), .sc (.int .i64 a0_3), .sc (.int .u64 a0_4), .sc (.bool a0_5)]⟩), (.arg 1, ⟨.fz, 1, cs1⟩)] (fun o => o = ⟨.g [.sc (.int .i64 r.1), .sc (.int .i64 r.2.1), .ref (.res 0) [] 0 r.2.2.1.length], [(.arg 0, ⟨.box, 0, [.sc (.int .u64 a0_0), .sc (.int .i64 a0_1), .own 1 r.2.2.2.length (encL c_i64 r.2.2.2), .sc (.int .i64 a0_3), .sc (.int .u64 a0_4), .sc (.bool a0_5)]⟩), (.arg 1, ⟨.fz, 1, cs1⟩), (.res 0, ⟨.lst, 1, encL c_u8 r.2.2.1⟩)], [0], []⟩) := by
 refine tri_of_body (ac := C155) (xs := r155) Try.func155 (show Try.f155.body = some (Try.f155.body.getD .skip) from rfl) k155 q155 (Nat.le_of_ble_eq_true rfl) ?_
 refine body_of fun K hKn hKr => ?_
 unfold spec_l5Put.f at h
 unfold C155
 simp only [initT, Nat.reduceAdd]
 refine sr_k fun J1 hJ1 => ?_
 simp +decide only [Nat.reduceAdd, Nat.reduceMul, Int.reduceToNat, ak]
 refine gho_k (Weak.own (.tmp 6 0) (cs' := [.sc (.int .i64 0), .sc (.int .i64 0), .own 1 (([] : List Int).length) (encL c_u8 ([] : List Int))]) rfl ⟨.inl rfl, .inl rfl, .inr ⟨rfl, _, rfl⟩, trivial⟩) ?_
 simp +decide only [Nat.reduceAdd, Nat.reduceMul, Int.reduceToNat, ak]
 refine hJ1 _ ?_
 refine seq_k fun J2 hJ2 => ?_
 obtain ⟨j3, h4, hn⟩ := of_bind h
 refine seq_j (fun st => st = ⟨[(0, .c (.ptr (.arg 0) [] 0)), (1, .c (.sc (.int .u64 a1))), (2, .c (.ref (.arg 1) [] o1 l2.length)), (6, .c (.ptr (.tmp 6 0) [] 0)), (20, .c (.sc (.bool j3)))], [(.arg 0, ⟨.box, 0, [.sc (.int .u64 a0_0), .sc (.int .i64 a0_1), .own 1 l0_2.length (encL c_i64 l0_2), .sc (.int .i64 a0_3), .sc (.int .u64 a0_4), .sc (.bool a0_5)]⟩), (.arg 1, ⟨.fz, 1, cs1⟩), (.tmp 6 0, ⟨.box, 0, [.sc (.int .i64 0), .sc (.int .i64 0), .own 1 (([] : List Int).length) (encL c_u8 ([] : List Int))]⟩)], [], []⟩) (fun J5 hJ5 => ?_) ?_
 ·replace h := h4; clear hn
  refine ga_k fun G6 G6n G6r G6x => ?_
  refine reg_k ?_
  simp +decide only [Nat.reduceAdd, Nat.reduceMul, Int.reduceToNat, ak]
  by_cases c7 : (l2.length : Int) < 1
  ·rw [if_pos c7] at h
   have e8 : decide ((l2.length : Int) < 1) = true := decide_eq_true c7
   simp +decide only [Nat.reduceAdd, Nat.reduceMul, Int.reduceToNat, ak, e8]
   obtain rfl := Option.some.inj h
   refine G6n _ _ (wk [0, 1, 2, 6, 20] [pI (.arg 0) .box, pI (.arg 1) .fz, pI (.tmp 6 0) .box] (h0 := by first | rfl | simp +decide only [ak, akF, e8]) (h := by first | rfl | (simp +decide only [ak, akF, e8]; done) | (simp +decide [ak, akF, e8] <;> omega))) (hJ5 _ rfl)
  ·rw [if_neg c7] at h
   have e9 : decide ((l2.length : Int) < 1) = false := decide_eq_false c7
   simp +decide only [Nat.reduceAdd, Nat.reduceMul, Int.reduceToNat, ak, e9]
   obtain rfl := Option.some.inj h
   refine G6n _ _ (wk [0, 1, 2, 6, 20] [pI (.arg 0) .box, pI (.arg 1) .fz, pI (.tmp 6 0) .box] (h0 := by first | rfl | simp +decide only [ak, akF, e9]) (h := by first | rfl | (simp +decide only [ak, akF, e9]; done) | (simp +decide [ak, akF, e9] <;> omega))) (hJ5 _ rfl)
 ·replace h := hn; clear hn h4
  rintro _ rfl
  refine cond_k (b := j3) rfl (fun c10 => ?_) (fun c10 => ?_)
  ·rw [if_pos c10] at h
   refine sr_k fun J11 hJ11 => ?_
   simp +decide only [Nat.reduceAdd, Nat.reduceMul, Int.reduceToNat, ak]
   refine gho_k (Weak.nmg' 21 2 (.tmp 21 22) 1 (encL c_u8 ([] : List Int)) rfl rfl rfl rfl) ?_
   have g12 : (encL c_u8 ([] : List Int)).length = 0 * 1 := by simp [encL_length c_u8_w]
   simp +decide only [Nat.reduceAdd, Nat.reduceMul, Int.reduceToNat, ak, g12]
   refine hJ11 _ ?_
   refine gh_k (Weak.mark [0] [] (by simp) (by simp)) ?_
   obtain rfl := Option.some.inj h
   refine hKr _ ⟨_, rfl, [⟨(.tmp 6 0), [2], none, .lst⟩], _, rfl, rfl, ?_⟩
   first | rfl | (simp only [reduceCtorEq, Nat.reduceEqDiff, ak, akF]; done) | (simp [reduceCtorEq, Nat.reduceEqDiff, ak, akF] <;> omega)
  ·rw [if_neg (Bool.eq_false_iff.1 c10)] at h
   refine hJ2 _ ?_
   refine sd_k fun J13 hJ13 => ?_
   simp +decide only [Nat.reduceAdd, Nat.reduceMul, Int.reduceToNat, ak]
   obtain ⟨t14, h15, h⟩ := of_bind h
   refine alt_e ?_
   ·simp +decide only [Nat.reduceAdd, Nat.reduceMul, Int.reduceToNat, ak]
    refine call_m [(.arg 0, ⟨(.arg 0), [], none, .box⟩)] (s0 := [(.arg 0, ⟨.box, 0, [.sc (.int .u64 a0_0), .sc (.int .i64 a0_1), .own 1 l0_2.length (encL c_i64 l0_2), .sc (.int .i64 a0_3), .sc (.int .u64 a0_4), .sc (.bool a0_5)]⟩)]) (by intro t ht; cases ht; decide) rfl rfl (by first | rfl | simp only [reduceCtorEq, Nat.reduceEqDiff, ak, akF]) (spec_l5Read.tri a0_0 a0_1 l0_2 a0_3 a0_4 a0_5 _ h15) (by first | rfl | simp only [reduceCtorEq, Nat.reduceEqDiff, ak, akF]) (by simp [bkOk2, memK]) (fun hl16 => ?_)
    refine call_st (s4 := [(.arg 0, ⟨.box, 0, [.sc (.int .u64 a0_0), .sc (.int .i64 a0_1), .own 1 l0_2.length (encL c_i64 l0_2), .sc (.int .i64 a0_3), .sc (.int .u64 a0_4), .sc (.bool a0_5)]⟩), (.arg 1, ⟨.fz, 1, cs1⟩), (.tmp 6 0, ⟨.box, 0, [.sc (.int .i64 0), .sc (.int .i64 0), .own 1 (([] : List Int).length) (encL c_u8 ([] : List Int))]⟩)]) (m1' := []) (m2' := []) (v' := .c (.sc (.int .u64 t14))) (Sto.mapN_killNil _ _) (mrgL_whole (new' := [.sc (.int .u64 a0_0), .sc (.int .i64 a0_1), .own 1 l0_2.length (encL c_i64 l0_2), .sc (.int .i64 a0_3), .sc (.int .u64 a0_4), .sc (.bool a0_5)]) (mrgL_nil' _ _ _) rfl (by rfl) (.inl ⟨rfl, by first | rfl | simp only [reduceCtorEq, Nat.reduceEqDiff, ak, akF, Nat.zero_add, List.append_nil]⟩)) (by rfl) (mapT_killNil _ _) (by rfl) (by rfl) (by first | rfl | simp only [reduceCtorEq, Nat.reduceEqDiff, ak, akF, Nat.zero_add, List.append_nil]) ?_
    simp +decide only [Nat.reduceAdd, Nat.reduceMul, Int.reduceToNat, ak]
    refine hJ13 _ ?_
    refine seq_k fun J18 hJ18 => ?_
    obtain ⟨j19, h20, hn⟩ := of_bind h
    refine seq_j (fun st => st = ⟨[(0, .c (.ptr (.arg 0) [] 0)), (1, .c (.sc (.int .u64 a1))), (2, .c (.ref (.arg 1) [] o1 l2.length)), (6, .c (.ptr (.tmp 6 0) [] 0)), (41, .c (.sc (.bool j19)))], [(.arg 0, ⟨.box, 0, [.sc (.int .u64 a0_0), .sc (.int .i64 a0_1), .own 1 l0_2.length (encL c_i64 l0_2), .sc (.int .i64 a0_3), .sc (.int .u64 a0_4), .sc (.bool a0_5)]⟩), (.arg 1, ⟨.fz, 1, cs1⟩), (.tmp 6 0, ⟨.box, 0, [.sc (.int .i64 0), .sc (.int .i64 0), .own 1 (([] : List Int).length) (encL c_u8 ([] : List Int))]⟩)], [], []⟩) (fun J21 hJ21 => ?_) ?_
    ·replace h := h20; clear hn
     refine ga_k fun G22 G22n G22r G22x => ?_
     refine reg_k ?_
     simp +decide only [Nat.reduceAdd, Nat.reduceMul, Int.reduceToNat, ak]
     by_cases c23 : a1 > IntKind.u64.wrap (t14 + (IntKind.u64.wrap a0_1))
     ·rw [if_pos c23] at h
      have e24 : decide (a1 > IntKind.u64.wrap (t14 + (IntKind.u64.wrap a0_1))) = true := decide_eq_true c23
      simp +decide only [Nat.reduceAdd, Nat.reduceMul, Int.reduceToNat, ak, e24]
      obtain rfl := Option.some.inj h
      refine G22n _ _ (wk [0, 1, 2, 6, 41] [pI (.arg 0) .box, pI (.arg 1) .fz, pI (.tmp 6 0) .box] (h0 := by first | rfl | simp +decide only [ak, akF, e24]) (h := by first | rfl | (simp +decide only [ak, akF, e24]; done) | (simp +decide [ak, akF, e24] <;> omega))) (hJ21 _ rfl)
     ·rw [if_neg c23] at h
      have e25 : decide (a1 > IntKind.u64.wrap (t14 + (IntKind.u64.wrap a0_1))) = false := decide_eq_false c23
      simp +decide only [Nat.reduceAdd, Nat.reduceMul, Int.reduceToNat, ak, e25]
      obtain rfl := Option.some.inj h
      refine G22n _ _ (wk [0, 1, 2, 6, 41] [pI (.arg 0) .box, pI (.arg 1) .fz, pI (.tmp 6 0) .box] (h0 := by first | rfl | simp +decide only [ak, akF, e25]) (h := by first | rfl | (simp +decide only [ak, akF, e25]; done) | (simp +decide [ak, akF, e25] <;> omega))) (hJ21 _ rfl)
    ·replace h := hn; clear hn h20
     rintro _ rfl
     refine cond_k (b := j19) rfl (fun c26 => ?_) (fun c26 => ?_)
     ·rw [if_pos c26] at h
      refine sr_k fun J27 hJ27 => ?_
      simp +decide only [Nat.reduceAdd, Nat.reduceMul, Int.reduceToNat, ak]
      refine gho_k (Weak.nmg' 42 2 (.tmp 42 22) 1 (encL c_u8 ([] : List Int)) rfl rfl rfl rfl) ?_
      have g28 : (encL c_u8 ([] : List Int)).length = 0 * 1 := by simp [encL_length c_u8_w]
      simp +decide only [Nat.reduceAdd, Nat.reduceMul, Int.reduceToNat, ak, g28]
      refine hJ27 _ ?_
      refine gh_k (Weak.mark [0] [] (by simp) (by simp)) ?_
      obtain rfl := Option.some.inj h
      refine hKr _ ⟨_, rfl, [⟨(.tmp 6 0), [2], none, .lst⟩], _, rfl, rfl, ?_⟩
      first | rfl | (simp only [reduceCtorEq, Nat.reduceEqDiff, ak, akF]; done) | (simp [reduceCtorEq, Nat.reduceEqDiff, ak, akF] <;> omega)
     ·rw [if_neg (Bool.eq_false_iff.1 c26)] at h
      refine hJ18 _ ?_
      refine sr_k fun J29 hJ29 => ?_
      simp +decide only [Nat.reduceAdd, Nat.reduceMul, Int.reduceToNat, ak]
      refine hJ29 _ ?_
      refine seq_k fun J30 hJ30 => ?_
      obtain ⟨j31, h32, hn⟩ := of_bind h
      refine seq_j (fun st => st = ⟨[(0, .c (.ptr (.arg 0) [] 0)), (1, .c (.sc (.int .u64 a1))), (2, .c (.ref (.arg 1) [] o1 l2.length)), (6, .c (.ptr (.tmp 6 0) [] 0)), (59, .c (.sc (.bool j31)))], [(.arg 0, ⟨.box, 0, [.sc (.int .u64 a0_0), .sc (.int .i64 a0_1), .own 1 l0_2.length (encL c_i64 l0_2), .sc (.int .i64 a0_3), .sc (.int .u64 a0_4), .sc (.bool a0_5)]⟩), (.arg 1, ⟨.fz, 1, cs1⟩), (.tmp 6 0, ⟨.box, 0, [.sc (.int .i64 0), .sc (.int .i64 0), .own 1 (([] : List Int).length) (encL c_u8 ([] : List Int))]⟩)], [], []⟩) (fun J33 hJ33 => ?_) ?_
      ·replace h := h32; clear hn
       refine ga_k fun G34 G34n G34r G34x => ?_
       refine reg_k ?_
       simp +decide only [Nat.reduceAdd, Nat.reduceMul, Int.reduceToNat, ak]
       by_cases c35 : a0_5 = true
       ·rw [if_pos c35] at h
        have e36 : (a0_5) = true := c35
        simp +decide only [Nat.reduceAdd, Nat.reduceMul, Int.reduceToNat, ak, e36]
        obtain rfl := Option.some.inj h
        refine G34n _ _ (wk [0, 1, 2, 6, 59] [pI (.arg 0) .box, pI (.arg 1) .fz, pI (.tmp 6 0) .box] (h0 := by first | rfl | simp +decide only [ak, akF, e36]) (h := by first | rfl | (simp +decide only [ak, akF, e36]; done) | (simp +decide [ak, akF, e36] <;> omega))) (hJ33 _ rfl)
       ·rw [if_neg c35] at h
        have e37 : (a0_5) = false := Bool.eq_false_iff.2 c35
        simp +decide only [Nat.reduceAdd, Nat.reduceMul, Int.reduceToNat, ak, e37]
        obtain rfl := Option.some.inj h
        refine G34n _ _ (wk [0, 1, 2, 6, 59] [pI (.arg 0) .box, pI (.arg 1) .fz, pI (.tmp 6 0) .box] (h0 := by first | rfl | simp +decide only [ak, akF, e37]) (h := by first | rfl | (simp +decide only [ak, akF, e37]; done) | (simp +decide [ak, akF, e37] <;> omega))) (hJ33 _ rfl)
      ·replace h := hn; clear hn h32
       rintro _ rfl
       refine cond_k (b := j31) rfl (fun c38 => ?_) (fun c38 => ?_)
       ·rw [if_pos c38] at h
        refine sr_k fun J39 hJ39 => ?_
        simp +decide only [Nat.reduceAdd, Nat.reduceMul, Int.reduceToNat, ak]
        refine gho_k (Weak.nmg' 60 2 (.tmp 60 22) 1 (encL c_u8 ([] : List Int)) rfl rfl rfl rfl) ?_
        have g40 : (encL c_u8 ([] : List Int)).length = 0 * 1 := by simp [encL_length c_u8_w]
        simp +decide only [Nat.reduceAdd, Nat.reduceMul, Int.reduceToNat, ak, g40]
        refine hJ39 _ ?_
        refine gh_k (Weak.mark [0] [] (by simp) (by simp)) ?_
        obtain rfl := Option.some.inj h
        refine hKr _ ⟨_, rfl, [⟨(.tmp 6 0), [2], none, .lst⟩], _, rfl, rfl, ?_⟩
        first | rfl | (simp only [reduceCtorEq, Nat.reduceEqDiff, ak, akF]; done) | (simp [reduceCtorEq, Nat.reduceEqDiff, ak, akF] <;> omega)
       ·rw [if_neg (Bool.eq_false_iff.1 c38)] at h
        refine hJ30 _ ?_
        refine sr_k fun J41 hJ41 => ?_
        simp +decide only [Nat.reduceAdd, Nat.reduceMul, Int.reduceToNat, ak]
        refine hJ41 _ ?_
        refine seq_k fun J42 hJ42 => ?_
        refine sr_k fun J43 hJ43 => ?_
        simp +decide only [Nat.reduceAdd, Nat.reduceMul, Int.reduceToNat, ak]
        refine hJ43 _ ?_
        refine block_k fun B44 B44n B44x B44r B44j => ?_
        obtain ⟨y92, h93, h⟩ := of_bind h
        refine gh_k (wkm [0] [] [0, 1, 2, 6, 9, 10] [pI (.arg 0) .box, pI (.arg 1) .fz, pI (.tmp 6 0) .box]) ?_
        rw [e_loop]
        refine spec_l5Put.l0_walk cs1 o1 l2 hv1 a1 a0_0 a0_1 a0_3 a0_4 a0_5 0 0 ([] : List Int) 0 0 l0_2 _ h93 _ ?_
        refine B44x _ ?_
        refine hJ42 _ ?_
        refine sr_k fun J94 hJ94 => ?_
        simp +decide only [Nat.reduceAdd, Nat.reduceMul, Int.reduceToNat, ak]
        refine gho_k (Weak.nmg' 120 2 (.tmp 120 22) 1 (encL c_u8 ([] : List Int)) rfl rfl rfl rfl) ?_
        have g95 : (encL c_u8 ([] : List Int)).length = 0 * 1 := by simp [encL_length c_u8_w]
        simp +decide only [Nat.reduceAdd, Nat.reduceMul, Int.reduceToNat, ak, g95]
        refine hJ94 _ ?_
        refine gh_k (Weak.mark [0] [] (by simp) (by simp)) ?_
        obtain rfl := Option.some.inj h
        refine hKr _ ⟨_, rfl, [⟨(.tmp 6 0), [2], none, .lst⟩], _, rfl, rfl, ?_⟩
        first | rfl | (simp only [reduceCtorEq, Nat.reduceEqDiff, ak, akF]; done) | (simp [reduceCtorEq, Nat.reduceEqDiff, ak, akF] <;> omega)
/-! ### spec.l5Take: function 156 -/
def C156_l0 : AC := .seq (.seq (.ga (.reg [.op none (.mv 10 (.tmp 0)), .op none (.nilc 11 (.tmp 10)), .op none (.faddr 12 3 (.tmp 11)), .op none (.load 13 false 1 (.tmp 12)), .op none (.mv 14 (.tmp 6)), .op none (.bin 15 .lss (.tmp 13) (.tmp 14)), .op none (.mv 16 (.tmp 15)), .op (some (16, true)) (.faddr 17 1 (.tmp 5)), .op (some (16, true)) (.load 18 false 1 (.tmp 17)), .op (some (16, true)) (.mv 19 (.tmp 1)), .op (some (16, true)) (.bin 20 .lss (.tmp 18) (.tmp 19)), .op none (.pick 21 (.tmp 16) (.tmp 20) (.const (.bool false))), .keep [0, 1, 4, 5, 6, 21]])) (.cond (.tmp 21) (.skip) (.gh (.exit 0)))) (.block 1 (.seq (.regD (.first (.op none (.faddr 22 2 (.tmp 5))) (.first (.op none (.load 23 false 1 (.tmp 22))) (.first (.op none (.mv 24 (.tmp 0))) (.first (.op none (.nilc 25 (.tmp 24))) (.first (.op none (.faddr 26 2 (.tmp 25))) (.first (.op none (.load 27 false 1 (.tmp 26))) (.first (.op none (.mv 28 (.tmp 0))) (.first (.op none (.nilc 29 (.tmp 28))) (.first (.op none (.faddr 30 3 (.tmp 29))) (.first (.op none (.load 31 false 1 (.tmp 30))) (.first (.op none (.iaddr 32 1 (.tmp 27) (.tmp 31))) (.first (.op none (.load 33 false 1 (.tmp 32))) (.first (.op none (.conv 34 .u8 (.tmp 33))) (.alt (.op none (.bslice 35 1 [.int .u8 0] 1 [(0, .tmp 34)])) none (.alt (.op none (.app 36 1 1 false (.tmp 23) (.tmp 35))) none (.first (.op none (.faddr 37 2 (.tmp 5))) (.alt (.op none (.store 1 (.tmp 37) (.tmp 36))) none (.done) (.stop))) (.stop)) (.stop))))))))))))))) [0, 1, 4, 5, 6]) (.seq (.reg [.op none (.mv 38 (.tmp 0)), .op none (.mv 39 (.tmp 0)), .op none (.nilc 40 (.tmp 39)), .op none (.faddr 41 3 (.tmp 40)), .op none (.load 42 false 1 (.tmp 41)), .op none (.bin 43 .add (.tmp 42) (.const (.int .i64 1))), .op none (.nilc 44 (.tmp 38)), .op none (.faddr 45 3 (.tmp 44)), .op none (.store 1 (.tmp 45) (.tmp 43)), .keep [0, 1, 4, 5, 6]]) (.reg [.op none (.faddr 46 1 (.tmp 5)), .op none (.load 47 false 1 (.tmp 46)), .op none (.bin 48 .add (.tmp 47) (.const (.int .i64 1))), .op none (.faddr 49 1 (.tmp 5)), .op none (.store 1 (.tmp 49) (.tmp 48)), .keep [0, 1, 4, 5, 6]]))))
def C156 : AC := .seq (.reg [.op none (.alloc 4 [.int .i64 0, .int .i64 0, .slice none 0 0]), .gh, .keep [0, 1, 4]]) (.seq (.reg [.op none (.build 7 [.int .i64 0, .int .i64 0, .slice none 0 0] []), .gh, .op none (.alloc 5 [.int .i64 0, .int .i64 0, .slice none 0 0]), .gh, .op none (.store 3 (.tmp 5) (.tmp 7)), .keep [0, 1, 4, 5]]) (.seq (.reg [.op none (.mv 8 (.tmp 0)), .call none (some 9) 141 [.tmp 8], .op none (.mv 6 (.tmp 9)), .keep [0, 1, 4, 5, 6]]) (.seq (.block 0 (.gh (.loop (.ga C156_l0)))) (.seq (.ga (.seq (.ga (.regD (.first (.op none (.faddr 50 1 (.tmp 5))) (.first (.op none (.load 51 false 1 (.tmp 50))) (.first (.op none (.bin 52 .eql (.tmp 51) (.const (.int .i64 0)))) (.first (.op none (.mv 53 (.tmp 52))) (.first (.op (some (53, true)) (.mv 54 (.tmp 0))) (.first (.op (some (53, true)) (.nilc 55 (.tmp 54))) (.first (.op (some (53, true)) (.faddr 56 5 (.tmp 55))) (.first (.op (some (53, true)) (.load 57 false 1 (.tmp 56))) (.first (.op none (.pick 58 (.tmp 53) (.tmp 57) (.const (.bool false)))) (.first (.op none (.mv 59 (.tmp 58))) (.first (.op (some (59, true)) (.mv 60 (.tmp 0))) (.first (.op (some (59, true)) (.mv 62 (.tmp 0))) (.first (.op (some (59, true)) (.nilc 63 (.tmp 62))) (.first (.op (some (59, true)) (.faddr 64 4 (.tmp 63))) (.pin [17, 16] (.op (some (59, true)) (.load 65 false 1 (.tmp 64))) (.alt (.call (some (59, true)) (some 61) 140 [.tmp 60]) none (.pin [17] (.op (some (59, true)) (.bin 66 .eql (.tmp 61) (.tmp 65))) (.pin [] (.op none (.pick 67 (.tmp 59) (.tmp 66) (.const (.bool false)))) (.done))) (.stop))))))))))))))))) [4, 5, 67])) (.cond (.tmp 67) (.reg [.op none (.faddr 68 0 (.tmp 5)), .op none (.store 1 (.tmp 68) (.const (.int .i64 15))), .keep [4, 5]]) (.skip)))) (.seq (.reg [.op none (.load 69 true 3 (.tmp 5)), .op none (.store 3 (.tmp 4) (.tmp 69)), .keep [4]]) (.ret))))))
def r156 : List RV := [.cell 4 true 3]
theorem k156 : compC Try.prog 70 C156 (Try.f156.body.getD .skip) = some C156.erase := by kernel_rfl
theorem q156 : rvsOf Try.prog Try.f156.results.toList = some r156 := by kernel_rfl
def spec_l5Take.l0 (x0_0 : Int) (x0_1 : Int) (x0_2 : Int) (x0_3 : Int) (x0_4 : (List Int)) (x0_6 : Int) (x0_7 : Bool) (x0_8 : Int) (x0_9 : Int) (x0_10 : (List Int)) (x0_11 : Int) (x0_5 : Int) (x0_12 : Int) (x0_13 : (List Int)) : Option (Int × Int × (List Int)) := ((if x0_5 < x0_1 then (some (decide (x0_12 < x0_0))) else (some false)) >>= fun (j11 : Bool) => (if j11 = true then (if 0 ≤ x0_5 ∧ x0_5 < (x0_4.length : Int) then (if (x0_13.length + 1) * 1 ≤ 140737488355328 then (spec_l5Take.l0 x0_0 x0_1 x0_2 x0_3 x0_4 x0_6 x0_7 x0_8 x0_9 x0_10 x0_11 (IntKind.i64.wrap (x0_5 + 1)) (IntKind.i64.wrap (x0_12 + 1)) (x0_13 ++ ([IntKind.u8.wrap (rd 0 x0_4 x0_5)] : List Int))) else none) else none) else (some (x0_5, x0_12, x0_13))))
 partial_fixpoint
def spec_l5Take.f (a0_0 : Int) (a0_1 : Int) (l0_2 : List Int) (a0_3 : Int) (a0_4 : Int) (a0_5 : Bool) (a1 : Int) : Option (Int × Int × (List Int) × Int) := (spec_l5Next.f a0_0 a0_1 l0_2 a0_3 a0_4 a0_5 >>= fun t5 => (spec_l5Take.l0 a1 t5 a0_0 a0_1 l0_2 a0_4 a0_5 0 0 ([] : List Int) 0 a0_3 0 ([] : List Int) >>= fun (y59 : (Int × Int × (List Int))) => (((if y59.2.1 = 0 then (if a0_5 = true then (spec_l5Read.f a0_0 a0_1 l0_2 y59.1 a0_4 a0_5 >>= fun t73 => (some (decide (t73 = a0_4)))) else (some false)) else (some false)) >>= fun (j65 : Bool) => (if j65 = true then (some 15) else (some 0))) >>= fun (j61 : Int) => (some (j61, y59.2.1, y59.2.2, y59.1)))))
def spec_l5Take.l0_M (x0_0 : Int) (x0_1 : Int) (x0_2 : Int) (x0_3 : Int) (x0_4 : (List Int)) (x0_6 : Int) (x0_7 : Bool) (x0_8 : Int) (x0_9 : Int) (x0_10 : (List Int)) (x0_11 : Int) (x0_5 : Int) (x0_12 : Int) (x0_13 : (List Int)) (y : (Int × Int × (List Int))) : Prop := ∀ (K : AE → St → Prop), (K (.exit 0) ⟨[(0, .c (.ptr (.arg 0) [] 0)), (4, .c (.ptr (.tmp 4 0) [] 0)), (5, .c (.ptr (.tmp 5 0) [] 0))], [(.arg 0, ⟨.box, 0, [.sc (.int .u64 x0_2), .sc (.int .i64 x0_3), .own 1 x0_4.length (encL c_i64 x0_4), .sc (.int .i64 y.1), .sc (.int .u64 x0_6), .sc (.bool x0_7)]⟩), (.tmp 4 0, ⟨.box, 0, [.sc (.int .i64 x0_8), .sc (.int .i64 x0_9), .own 1 x0_10.length (encL c_u8 x0_10)]⟩), (.tmp 5 0, ⟨.box, 0, [.sc (.int .i64 x0_11), .sc (.int .i64 y.2.1), .own 1 y.2.2.length (encL c_u8 y.2.2)]⟩)], [], []⟩) → loopS Try.prog 70 (.ga C156_l0) K ⟨[(0, .c (.ptr (.arg 0) [] 0)), (1, .c (.sc (.int .i64 x0_0))), (4, .c (.ptr (.tmp 4 0) [] 0)), (5, .c (.ptr (.tmp 5 0) [] 0)), (6, .c (.sc (.int .i64 x0_1)))], [(.arg 0, ⟨.box, 0, [.sc (.int .u64 x0_2), .sc (.int .i64 x0_3), .own 1 x0_4.length (encL c_i64 x0_4), .sc (.int .i64 x0_5), .sc (.int .u64 x0_6), .sc (.bool x0_7)]⟩), (.tmp 4 0, ⟨.box, 0, [.sc (.int .i64 x0_8), .sc (.int .i64 x0_9), .own 1 x0_10.length (encL c_u8 x0_10)]⟩), (.tmp 5 0, ⟨.box, 0, [.sc (.int .i64 x0_11), .sc (.int .i64 x0_12), .own 1 x0_13.length (encL c_u8 x0_13)]⟩)], [], []⟩
theorem spec_l5Take.l0_walk (x0_0 : Int) (x0_1 : Int) (x0_2 : Int) (x0_3 : Int) (x0_4 : (List Int)) (x0_6 : Int) (x0_7 : Bool) (x0_8 : Int) (x0_9 : Int) (x0_10 : (List Int)) (x0_11 : Int) (x0_5 : Int) (x0_12 : Int) (x0_13 : (List Int)) (y : (Int × Int × (List Int))) (h : spec_l5Take.l0 x0_0 x0_1 x0_2 x0_3 x0_4 x0_6 x0_7 x0_8 x0_9 x0_10 x0_11 x0_5 x0_12 x0_13 = some y) : spec_l5Take.l0_M x0_0 x0_1 x0_2 x0_3 x0_4 x0_6 x0_7 x0_8 x0_9 x0_10 x0_11 x0_5 x0_12 x0_13 y := by
 refine spec_l5Take.l0.partial_correctness x0_0 x0_1 x0_2 x0_3 x0_4 x0_6 x0_7 x0_8 x0_9 x0_10 x0_11 (motive := fun x0_5 x0_12 x0_13 y => spec_l5Take.l0_M x0_0 x0_1 x0_2 x0_3 x0_4 x0_6 x0_7 x0_8 x0_9 x0_10 x0_11 x0_5 x0_12 x0_13 y) ?_ x0_5 x0_12 x0_13 y h
 clear h
 unfold spec_l5Take.l0_M
 intro rec ih x0_5 x0_12 x0_13 y h K hx0
 refine loop_unroll (ga_k fun G0 G0n G0r G0x => ?_)
 unfold C156_l0
 refine seq_k fun J10 hJ10 => ?_
 obtain ⟨j11, h12, hn⟩ := of_bind h
 refine seq_j (fun st => st = ⟨[(0, .c (.ptr (.arg 0) [] 0)), (1, .c (.sc (.int .i64 x0_0))), (4, .c (.ptr (.tmp 4 0) [] 0)), (5, .c (.ptr (.tmp 5 0) [] 0)), (6, .c (.sc (.int .i64 x0_1))), (21, .c (.sc (.bool j11)))], [(.arg 0, ⟨.box, 0, [.sc (.int .u64 x0_2), .sc (.int .i64 x0_3), .own 1 x0_4.length (encL c_i64 x0_4), .sc (.int .i64 x0_5), .sc (.int .u64 x0_6), .sc (.bool x0_7)]⟩), (.tmp 4 0, ⟨.box, 0, [.sc (.int .i64 x0_8), .sc (.int .i64 x0_9), .own 1 x0_10.length (encL c_u8 x0_10)]⟩), (.tmp 5 0, ⟨.box, 0, [.sc (.int .i64 x0_11), .sc (.int .i64 x0_12), .own 1 x0_13.length (encL c_u8 x0_13)]⟩)], [], []⟩) (fun J13 hJ13 => ?_) ?_
 ·replace h := h12; clear hn
  refine ga_k fun G14 G14n G14r G14x => ?_
  refine reg_k ?_
  simp +decide only [Nat.reduceAdd, Nat.reduceMul, Int.reduceToNat, ak]
  by_cases c15 : x0_5 < x0_1
  ·rw [if_pos c15] at h
   have e16 : decide (x0_5 < x0_1) = true := decide_eq_true c15
   simp +decide only [Nat.reduceAdd, Nat.reduceMul, Int.reduceToNat, ak, e16]
   obtain rfl := Option.some.inj h
   refine G14n _ _ (wk [0, 1, 4, 5, 6, 21] [pI (.arg 0) .box, pI (.tmp 4 0) .box, pI (.tmp 5 0) .box] (h0 := by first | rfl | simp +decide only [ak, akF, e16]) (h := by first | rfl | (simp +decide only [ak, akF, e16]; done) | (simp +decide [ak, akF, e16] <;> omega))) (hJ13 _ rfl)
  ·rw [if_neg c15] at h
   have e17 : decide (x0_5 < x0_1) = false := decide_eq_false c15
   simp +decide only [Nat.reduceAdd, Nat.reduceMul, Int.reduceToNat, ak, e17]
   obtain rfl := Option.some.inj h
   refine G14n _ _ (wk [0, 1, 4, 5, 6, 21] [pI (.arg 0) .box, pI (.tmp 4 0) .box, pI (.tmp 5 0) .box] (h0 := by first | rfl | simp +decide only [ak, akF, e17]) (h := by first | rfl | (simp +decide only [ak, akF, e17]; done) | (simp +decide [ak, akF, e17] <;> omega))) (hJ13 _ rfl)
 ·replace h := hn; clear hn h12
  rintro _ rfl
  refine cond_k (b := j11) rfl (fun c18 => ?_) (fun c18 => ?_)
  ·rw [if_pos c18] at h
   refine hJ10 _ ?_
   refine block_k fun B19 B19n B19x B19r B19j => ?_
   refine sd_k fun J20 hJ20 => ?_
   obtain ⟨b21, h⟩ := of_guard h
   have g22 : (encL c_i64 x0_4)[0 + x0_5.toNat * 1]? = some (.sc (.int .i64 (rd 0 x0_4 x0_5))) := (Vw.whole c_i64_w x0_4).get 0 0 b21.1 b21.2 (by decide)
   simp +decide only [Nat.reduceAdd, Nat.reduceMul, Int.reduceToNat, ak, b21, g22]
   obtain ⟨b28, h⟩ := of_guard h
   refine alt_e ?_
   ·have g41 : (List.replicate 1 ([.int .u8 0] : List Value)).flatten = [.int .u8 0] := rfl
    have g42 : (⟨.lst, 1, [.sc (.int .u8 (IntKind.u8.wrap (rd 0 x0_4 x0_5)))]⟩ : Root) = ⟨.lst, 1, encL c_u8 ([IntKind.u8.wrap (rd 0 x0_4 x0_5)] : List Int)⟩ := rfl
    have g43 : ([IntKind.u8.wrap (rd 0 x0_4 x0_5)] : List Int).length = 1 := rfl
    simp +decide only [Nat.reduceAdd, Nat.reduceMul, Int.reduceToNat, ak, g41, g42, g43]
    refine alt_e ?_
    ·have g51 : (encL c_u8 ([IntKind.u8.wrap (rd 0 x0_4 x0_5)] : List Int)).take 1 = encL c_u8 ([IntKind.u8.wrap (rd 0 x0_4 x0_5)] : List Int) := by simpa using (Vw.whole c_u8_w ([IntKind.u8.wrap (rd 0 x0_4 x0_5)] : List Int)).all
     have g52 : (encL c_u8 ([IntKind.u8.wrap (rd 0 x0_4 x0_5)] : List Int)).all isSc = true := encL_all (fun _ => rfl) _
     have g53 : appLim x0_13.length 1 1 := ⟨b28, by have := b28; omega⟩
     have g54 : (encL c_u8 x0_13).length = x0_13.length * 1 := by simp [encL_length c_u8_w]
     have g55 : encL c_u8 x0_13 ++ encL c_u8 ([IntKind.u8.wrap (rd 0 x0_4 x0_5)] : List Int) = encL c_u8 (x0_13 ++ ([IntKind.u8.wrap (rd 0 x0_4 x0_5)] : List Int)) := (encL_append _ _).symm
     simp +decide only [Nat.reduceAdd, Nat.reduceMul, Int.reduceToNat, ak, g51, g52, g53, g54, g55]
     refine alt_e ?_
     ·have g57 : (encL c_u8 (x0_13 ++ ([IntKind.u8.wrap (rd 0 x0_4 x0_5)] : List Int))).length = (x0_13.length + 1) * 1 := by simp [encL_length c_u8_w]
      simp +decide only [Nat.reduceAdd, Nat.reduceMul, Int.reduceToNat, ak, g57]
      refine hJ20 _ ?_
      refine sr_k fun J58 hJ58 => ?_
      simp +decide only [Nat.reduceAdd, Nat.reduceMul, Int.reduceToNat, ak]
      refine hJ58 _ ?_
      refine reg_k ?_
      simp +decide only [Nat.reduceAdd, Nat.reduceMul, Int.reduceToNat, ak]
      refine B19n _ ?_
      refine G0n _ _ (wk [0, 1, 4, 5, 6] [pI (.arg 0) .box, pI (.tmp 4 0) .box, pI (.tmp 5 0) .box] (h0 := by first | rfl | simp +decide only [ak, akF, b21, b28]) (h := by first | rfl | (simp +decide only [ak, akF, b21, b28]; done) | (simp +decide [ak, akF, b21, b28] <;> omega))) (ih _ _ _ _ h K hx0)
  ·rw [if_neg (Bool.eq_false_iff.1 c18)] at h
   obtain rfl := Option.some.inj h
   refine gh_k (wk [0, 4, 5] [pI (.arg 0) .box, pI (.tmp 4 0) .box, pI (.tmp 5 0) .box]) ?_
   refine G0x _ _ ?_
   exact hx0
theorem spec_l5Take.tri (a0_0 : Int) (a0_1 : Int) (l0_2 : List Int) (a0_3 : Int) (a0_4 : Int) (a0_5 : Bool) (a1 : Int) (r : Int × Int × (List Int) × Int) (h : spec_l5Take.f a0_0 a0_1 l0_2 a0_3 a0_4 a0_5 a1 = some r) : Tri Try.prog 156 [.c (.ptr (.arg 0) [] 0), .c (.sc (.int .i64 a1))] [(.arg 0, ⟨.box, 0, [.sc (.int .u64 a0_0), .sc (.int .i64 a0_1), .own 1 l0_2.length (encL c_i64 l0_2), .sc (.int .i64 a0_3), .sc (.int .u64 a0_4), .sc (.bool a0_5)]⟩)] (fun o => o = ⟨.g [.sc (.int .i64 r.1), .sc (.int .i64 r.2.1), .ref (.res 0) [] 0 r.2.2.1.length], [(.arg 0, ⟨.box, 0, [.sc (.int .u64 a0_0), .sc (.int .i64 a0_1), .own 1 l0_2.length (encL c_i64 l0_2), .sc (.int .i64 r.2.2.2), .sc (.int .u64 a0_4), .sc (.bool a0_5)]⟩), (.res 0, ⟨.lst, 1, encL c_u8 r.2.2.1⟩)], [], []⟩) := by
 refine tri_of_body (ac := C156) (xs := r156) Try.func156 (show Try.f156.body = some (Try.f156.body.getD .skip) from rfl) k156 q156 (Nat.le_of_ble_eq_true rfl) ?_
 refine body_of fun K hKn hKr => ?_
 unfold spec_l5Take.f at h
 unfold C156
 simp only [initT, Nat.reduceAdd]
 refine sr_k fun J1 hJ1 => ?_
 simp +decide only [Nat.reduceAdd, Nat.reduceMul, Int.reduceToNat, ak]
 refine gho_k (Weak.own (.tmp 4 0) (cs' := [.sc (.int .i64 0), .sc (.int .i64 0), .own 1 (([] : List Int).length) (encL c_u8 ([] : List Int))]) rfl ⟨.inl rfl, .inl rfl, .inr ⟨rfl, _, rfl⟩, trivial⟩) ?_
 simp +decide only [Nat.reduceAdd, Nat.reduceMul, Int.reduceToNat, ak]
 refine hJ1 _ ?_
 refine sr_k fun J2 hJ2 => ?_
 simp +decide only [Nat.reduceAdd, Nat.reduceMul, Int.reduceToNat, ak]
 refine gho_k (Weak.nmg' 7 2 (.tmp 7 22) 1 (encL c_u8 ([] : List Int)) rfl rfl rfl rfl) ?_
 simp +decide only [Nat.reduceAdd, Nat.reduceMul, Int.reduceToNat, ak]
 refine gho_k (Weak.own (.tmp 5 0) (cs' := [.sc (.int .i64 0), .sc (.int .i64 0), .own 1 (([] : List Int).length) (encL c_u8 ([] : List Int))]) rfl ⟨.inl rfl, .inl rfl, .inr ⟨rfl, _, rfl⟩, trivial⟩) ?_
 have g3 : (encL c_u8 ([] : List Int)).length = 0 * 1 := by simp [encL_length c_u8_w]
 simp +decide only [Nat.reduceAdd, Nat.reduceMul, Int.reduceToNat, ak, g3]
 refine hJ2 _ ?_
 refine sr_k fun J4 hJ4 => ?_
 simp +decide only [Nat.reduceAdd, Nat.reduceMul, Int.reduceToNat, ak]
 obtain ⟨t5, h6, h⟩ := of_bind h
 refine call_m [(.arg 0, ⟨(.arg 0), [], none, .box⟩)] (s0 := [(.arg 0, ⟨.box, 0, [.sc (.int .u64 a0_0), .sc (.int .i64 a0_1), .own 1 l0_2.length (encL c_i64 l0_2), .sc (.int .i64 a0_3), .sc (.int .u64 a0_4), .sc (.bool a0_5)]⟩)]) (by intro t ht; cases ht; decide) rfl rfl (by first | rfl | simp only [reduceCtorEq, Nat.reduceEqDiff, ak, akF, g3]) (spec_l5Next.tri a0_0 a0_1 l0_2 a0_3 a0_4 a0_5 _ h6) (by first | rfl | simp only [reduceCtorEq, Nat.reduceEqDiff, ak, akF]) (by simp [bkOk2, memK]) (fun hl6 => ?_)
 refine call_st (s4 := [(.arg 0, ⟨.box, 0, [.sc (.int .u64 a0_0), .sc (.int .i64 a0_1), .own 1 l0_2.length (encL c_i64 l0_2), .sc (.int .i64 a0_3), .sc (.int .u64 a0_4), .sc (.bool a0_5)]⟩), (.tmp 4 0, ⟨.box, 0, [.sc (.int .i64 0), .sc (.int .i64 0), .own 1 (([] : List Int).length) (encL c_u8 ([] : List Int))]⟩), (.tmp 5 0, ⟨.box, 0, [.sc (.int .i64 0), .sc (.int .i64 0), .own 1 0 (encL c_u8 ([] : List Int))]⟩)]) (m1' := []) (m2' := []) (v' := .c (.sc (.int .i64 t5))) (Sto.mapN_killNil _ _) (mrgL_whole (new' := [.sc (.int .u64 a0_0), .sc (.int .i64 a0_1), .own 1 l0_2.length (encL c_i64 l0_2), .sc (.int .i64 a0_3), .sc (.int .u64 a0_4), .sc (.bool a0_5)]) (mrgL_nil' _ _ _) rfl (by rfl) (.inl ⟨rfl, by first | rfl | simp only [reduceCtorEq, Nat.reduceEqDiff, ak, akF, Nat.zero_add, List.append_nil]⟩)) (by rfl) (mapT_killNil _ _) (by rfl) (by rfl) (by first | rfl | simp only [reduceCtorEq, Nat.reduceEqDiff, ak, akF, Nat.zero_add, List.append_nil]) ?_
 simp +decide only [Nat.reduceAdd, Nat.reduceMul, Int.reduceToNat, ak]
 refine hJ4 _ ?_
 refine seq_k fun J8 hJ8 => ?_
 refine block_k fun B9 B9n B9x B9r B9j => ?_
 obtain ⟨y59, h60, h⟩ := of_bind h
 refine gh_k (st' := ⟨[(0, .c (.ptr (.arg 0) [] 0)), (1, .c (.sc (.int .i64 a1))), (4, .c (.ptr (.tmp 4 0) [] 0)), (5, .c (.ptr (.tmp 5 0) [] 0)), (6, .c (.sc (.int .i64 t5)))], [(.arg 0, ⟨.box, 0, [.sc (.int .u64 a0_0), .sc (.int .i64 a0_1), .own 1 l0_2.length (encL c_i64 l0_2), .sc (.int .i64 a0_3), .sc (.int .u64 a0_4), .sc (.bool a0_5)]⟩), (.tmp 4 0, ⟨.box, 0, [.sc (.int .i64 0), .sc (.int .i64 0), .own 1 (([] : List Int).length) (encL c_u8 ([] : List Int))]⟩), (.tmp 5 0, ⟨.box, 0, [.sc (.int .i64 0), .sc (.int .i64 0), .own 1 (([] : List Int).length) (encL c_u8 ([] : List Int))]⟩)], [], []⟩) (wk [0, 1, 4, 5, 6] [pI (.arg 0) .box, pI (.tmp 4 0) .box, pI (.tmp 5 0) .box] (h := by first | rfl | (simp +decide only [ak, akF]; done) | (simp +decide [ak, akF] <;> omega))) ?_
 rw [e_loop]
 refine spec_l5Take.l0_walk a1 t5 a0_0 a0_1 l0_2 a0_4 a0_5 0 0 ([] : List Int) 0 a0_3 0 ([] : List Int) _ h60 _ ?_
 refine B9x _ ?_
 refine hJ8 _ ?_
 obtain ⟨j61, h62, hn⟩ := of_bind h
 refine seq_j (fun st => st = ⟨[(4, .c (.ptr (.tmp 4 0) [] 0)), (5, .c (.ptr (.tmp 5 0) [] 0))], [(.arg 0, ⟨.box, 0, [.sc (.int .u64 a0_0), .sc (.int .i64 a0_1), .own 1 l0_2.length (encL c_i64 l0_2), .sc (.int .i64 y59.1), .sc (.int .u64 a0_4), .sc (.bool a0_5)]⟩), (.tmp 4 0, ⟨.box, 0, [.sc (.int .i64 0), .sc (.int .i64 0), .own 1 (([] : List Int).length) (encL c_u8 ([] : List Int))]⟩), (.tmp 5 0, ⟨.box, 0, [.sc (.int .i64 j61), .sc (.int .i64 y59.2.1), .own 1 y59.2.2.length (encL c_u8 y59.2.2)]⟩)], [], []⟩) (fun J63 hJ63 => ?_) ?_
 ·replace h := h62; clear hn
  refine ga_k fun G64 G64n G64r G64x => ?_
  obtain ⟨j65, h66, hn⟩ := of_bind h
  refine seq_j (fun st => st = ⟨[(4, .c (.ptr (.tmp 4 0) [] 0)), (5, .c (.ptr (.tmp 5 0) [] 0)), (67, .c (.sc (.bool j65)))], [(.arg 0, ⟨.box, 0, [.sc (.int .u64 a0_0), .sc (.int .i64 a0_1), .own 1 l0_2.length (encL c_i64 l0_2), .sc (.int .i64 y59.1), .sc (.int .u64 a0_4), .sc (.bool a0_5)]⟩), (.tmp 4 0, ⟨.box, 0, [.sc (.int .i64 0), .sc (.int .i64 0), .own 1 (([] : List Int).length) (encL c_u8 ([] : List Int))]⟩), (.tmp 5 0, ⟨.box, 0, [.sc (.int .i64 0), .sc (.int .i64 y59.2.1), .own 1 y59.2.2.length (encL c_u8 y59.2.2)]⟩)], [], []⟩) (fun J67 hJ67 => ?_) ?_
  ·replace h := h66; clear hn
   refine ga_k fun G68 G68n G68r G68x => ?_
   refine regD_k ?_
   simp +decide only [Nat.reduceAdd, Nat.reduceMul, Int.reduceToNat, ak]
   by_cases c69 : y59.2.1 = 0
   ·rw [if_pos c69] at h
    have e70 : decide (y59.2.1 = 0) = true := decide_eq_true c69
    simp +decide only [Nat.reduceAdd, Nat.reduceMul, Int.reduceToNat, ak, e70]
    by_cases c71 : a0_5 = true
    ·rw [if_pos c71] at h
     have e72 : (a0_5) = true := c71
     simp +decide only [Nat.reduceAdd, Nat.reduceMul, Int.reduceToNat, ak, e72]
     obtain ⟨t73, h74, h⟩ := of_bind h
     refine alt_e ?_
     ·simp +decide only [Nat.reduceAdd, Nat.reduceMul, Int.reduceToNat, ak]
      refine call_m [(.arg 0, ⟨(.arg 0), [], none, .box⟩)] (s0 := [(.arg 0, ⟨.box, 0, [.sc (.int .u64 a0_0), .sc (.int .i64 a0_1), .own 1 l0_2.length (encL c_i64 l0_2), .sc (.int .i64 y59.1), .sc (.int .u64 a0_4), .sc (.bool a0_5)]⟩)]) (by intro t ht; cases ht; decide) rfl rfl (by first | rfl | simp only [reduceCtorEq, Nat.reduceEqDiff, ak, akF, e70, e72, g3]) (spec_l5Read.tri a0_0 a0_1 l0_2 y59.1 a0_4 a0_5 _ h74) (by first | rfl | simp only [reduceCtorEq, Nat.reduceEqDiff, ak, akF]) (by simp [bkOk2, memK]) (fun hl75 => ?_)
      refine call_st (s4 := [(.arg 0, ⟨.box, 0, [.sc (.int .u64 a0_0), .sc (.int .i64 a0_1), .own 1 l0_2.length (encL c_i64 l0_2), .sc (.int .i64 y59.1), .sc (.int .u64 a0_4), .sc (.bool a0_5)]⟩), (.tmp 4 0, ⟨.box, 0, [.sc (.int .i64 0), .sc (.int .i64 0), .own 1 (([] : List Int).length) (encL c_u8 ([] : List Int))]⟩), (.tmp 5 0, ⟨.box, 0, [.sc (.int .i64 0), .sc (.int .i64 y59.2.1), .own 1 y59.2.2.length (encL c_u8 y59.2.2)]⟩)]) (m1' := []) (m2' := []) (v' := .c (.sc (.int .u64 t73))) (Sto.mapN_killNil _ _) (mrgL_whole (new' := [.sc (.int .u64 a0_0), .sc (.int .i64 a0_1), .own 1 l0_2.length (encL c_i64 l0_2), .sc (.int .i64 y59.1), .sc (.int .u64 a0_4), .sc (.bool a0_5)]) (mrgL_nil' _ _ _) rfl (by rfl) (.inl ⟨rfl, by first | rfl | simp only [reduceCtorEq, Nat.reduceEqDiff, ak, akF, Nat.zero_add, List.append_nil, e70, e72]⟩)) (by rfl) (mapT_killNil _ _) (by rfl) (by rfl) (by first | rfl | simp only [reduceCtorEq, Nat.reduceEqDiff, ak, akF, Nat.zero_add, List.append_nil, e70, e72]) ?_
      simp +decide only [Nat.reduceAdd, Nat.reduceMul, Int.reduceToNat, ak]
      obtain rfl := Option.some.inj h
      refine G68n _ _ (wk [4, 5, 67] [pI (.arg 0) .box, pI (.tmp 4 0) .box, pI (.tmp 5 0) .box] (h0 := by first | rfl | simp +decide only [ak, akF, e70, e72]) (h := by first | rfl | (simp +decide only [ak, akF, e70, e72]; done) | (simp +decide [ak, akF, e70, e72] <;> omega))) (hJ67 _ rfl)
    ·rw [if_neg c71] at h
     have e77 : (a0_5) = false := Bool.eq_false_iff.2 c71
     simp +decide only [Nat.reduceAdd, Nat.reduceMul, Int.reduceToNat, ak, e77]
     refine alt_e ?_
     ·simp +decide only [Nat.reduceAdd, Nat.reduceMul, Int.reduceToNat, ak]
      obtain rfl := Option.some.inj h
      refine G68n _ _ (wk [4, 5, 67] [pI (.arg 0) .box, pI (.tmp 4 0) .box, pI (.tmp 5 0) .box] (h0 := by first | rfl | simp +decide only [ak, akF, e70, e77]) (h := by first | rfl | (simp +decide only [ak, akF, e70, e77]; done) | (simp +decide [ak, akF, e70, e77] <;> omega))) (hJ67 _ rfl)
   ·rw [if_neg c69] at h
    have e78 : decide (y59.2.1 = 0) = false := decide_eq_false c69
    simp +decide only [Nat.reduceAdd, Nat.reduceMul, Int.reduceToNat, ak, e78]
    refine alt_e ?_
    ·simp +decide only [Nat.reduceAdd, Nat.reduceMul, Int.reduceToNat, ak]
     obtain rfl := Option.some.inj h
     refine G68n _ _ (wk [4, 5, 67] [pI (.arg 0) .box, pI (.tmp 4 0) .box, pI (.tmp 5 0) .box] (h0 := by first | rfl | simp +decide only [ak, akF, e78]) (h := by first | rfl | (simp +decide only [ak, akF, e78]; done) | (simp +decide [ak, akF, e78] <;> omega))) (hJ67 _ rfl)
  ·replace h := hn; clear hn h66
   rintro _ rfl
   refine cond_k (b := j65) rfl (fun c79 => ?_) (fun c79 => ?_)
   ·rw [if_pos c79] at h
    refine reg_k ?_
    simp +decide only [Nat.reduceAdd, Nat.reduceMul, Int.reduceToNat, ak]
    obtain rfl := Option.some.inj h
    refine G64n _ _ (wk [4, 5] [pI (.arg 0) .box, pI (.tmp 4 0) .box, pI (.tmp 5 0) .box]) (hJ63 _ rfl)
   ·rw [if_neg (Bool.eq_false_iff.1 c79)] at h
    obtain rfl := Option.some.inj h
    refine G64n _ _ (wk [4, 5] [pI (.arg 0) .box, pI (.tmp 4 0) .box, pI (.tmp 5 0) .box]) (hJ63 _ rfl)
 ·replace h := hn; clear hn h62
  rintro _ rfl
  refine sr_k fun J80 hJ80 => ?_
  simp +decide only [Nat.reduceAdd, Nat.reduceMul, Int.reduceToNat, ak]
  refine hJ80 _ ?_
  obtain rfl := Option.some.inj h
  refine hKr _ ⟨_, rfl, [⟨(.tmp 5 0), [2], none, .lst⟩], _, rfl, rfl, ?_⟩
  first | rfl | (simp only [reduceCtorEq, Nat.reduceEqDiff, ak, akF]; done) | (simp [reduceCtorEq, Nat.reduceEqDiff, ak, akF] <;> omega)
/-! ### spec.l5Fin: function 157 -/
def C157_l0 : AC := .seq (.seq (.reg [.op none (.mv 29 (.tmp 5)), .op none (.mv 30 (.tmp 0)), .op none (.nilc 31 (.tmp 30)), .op none (.faddr 32 2 (.tmp 31)), .op none (.load 33 false 1 (.tmp 32)), .op none (.len 34 (.tmp 33)), .op none (.bin 35 .lss (.tmp 29) (.tmp 34)), .keep [0, 1, 4, 5, 35]]) (.cond (.tmp 35) (.skip) (.gh (.exit 0)))) (.seq (.block 1 (.seq (.ga (.reg [.op none (.mv 38 (.tmp 0)), .op none (.nilc 39 (.tmp 38)), .op none (.faddr 40 2 (.tmp 39)), .op none (.load 41 false 1 (.tmp 40)), .op none (.mv 42 (.tmp 5)), .op none (.iaddr 43 1 (.tmp 41) (.tmp 42)), .op none (.load 44 false 1 (.tmp 43)), .op none (.bin 45 .geq (.tmp 44) (.const (.int .i64 0))), .op none (.mv 46 (.tmp 45)), .op (some (46, true)) (.mv 47 (.tmp 0)), .op (some (46, true)) (.nilc 48 (.tmp 47)), .op (some (46, true)) (.faddr 49 0 (.tmp 48)), .op (some (46, true)) (.load 50 false 1 (.tmp 49)), .op (some (46, true)) (.mv 51 (.tmp 5)), .op (some (46, true)) (.conv 52 .u64 (.tmp 51)), .op (some (46, true)) (.bin 53 .add (.tmp 50) (.tmp 52)), .op (some (46, true)) (.mv 54 (.tmp 1)), .op (some (46, true)) (.bin 55 .geq (.tmp 53) (.tmp 54)), .op none (.pick 56 (.tmp 46) (.tmp 55) (.const (.bool false))), .keep [0, 1, 4, 5, 56]])) (.cond (.tmp 56) (.seq (.reg [.op none (.build 57 [.int .i64 0, .int .i64 0, .slice none 0 0] [(0, 1, .const (.int .i64 12))]), .gh, .op none (.store 3 (.tmp 4) (.tmp 57)), .keep [4]]) (.gh .ret)) (.skip)))) (.reg [.op none (.mv 36 (.tmp 5)), .op none (.bin 37 .add (.tmp 36) (.const (.int .i64 1))), .op none (.mv 5 (.tmp 37)), .keep [0, 1, 4, 5]]))
def C157 : AC := .seq (.reg [.op none (.alloc 4 [.int .i64 0, .int .i64 0, .slice none 0 0]), .gh, .keep [0, 1, 4]]) (.seq (.seq (.ga (.reg [.op none (.mv 6 (.tmp 0)), .op none (.nilc 7 (.tmp 6)), .op none (.faddr 8 5 (.tmp 7)), .op none (.load 9 false 1 (.tmp 8)), .op none (.mv 10 (.tmp 9)), .op (some (10, true)) (.mv 11 (.tmp 0)), .op (some (10, true)) (.nilc 12 (.tmp 11)), .op (some (10, true)) (.faddr 13 4 (.tmp 12)), .op (some (10, true)) (.load 14 false 1 (.tmp 13)), .op (some (10, true)) (.mv 15 (.tmp 1)), .op (some (10, true)) (.bin 16 .neq (.tmp 14) (.tmp 15)), .op none (.pick 17 (.tmp 10) (.tmp 16) (.const (.bool false))), .op none (.mv 18 (.tmp 17)), .op (some (18, false)) (.mv 19 (.tmp 1)), .op (some (18, false)) (.mv 20 (.tmp 0)), .call (some (18, false)) (some 21) 140 [.tmp 20], .op (some (18, false)) (.bin 22 .lss (.tmp 19) (.tmp 21)), .op none (.pick 23 (.tmp 18) (.const (.bool true)) (.tmp 22)), .keep [0, 1, 4, 23]])) (.cond (.tmp 23) (.seq (.reg [.op none (.build 24 [.int .i64 0, .int .i64 0, .slice none 0 0] [(0, 1, .const (.int .i64 12))]), .gh, .op none (.store 3 (.tmp 4) (.tmp 24)), .keep [4]]) (.ret)) (.skip))) (.seq (.seq (.reg [.op none (.mv 25 (.tmp 0)), .op none (.nilc 26 (.tmp 25)), .op none (.faddr 27 3 (.tmp 26)), .op none (.load 28 false 1 (.tmp 27)), .op none (.mv 5 (.tmp 28)), .keep [0, 1, 4, 5]]) (.block 0 (.gh (.loop (.ga C157_l0))))) (.seq (.seq (.regD (.first (.op none (.mv 58 (.tmp 1))) (.first (.op none (.mv 59 (.tmp 0))) (.first (.op none (.mv 61 (.tmp 0))) (.first (.op none (.nilc 62 (.tmp 61))) (.first (.op none (.faddr 63 1 (.tmp 62))) (.pin [9, 8, 7] (.op none (.load 64 false 1 (.tmp 63))) (.pin [9, 8] (.op none (.conv 65 .u64 (.tmp 64))) (.alt (.call none (some 60) 140 [.tmp 59]) none (.pin [9] (.op none (.bin 66 .add (.tmp 60) (.tmp 65))) (.pin [] (.op none (.bin 67 .gtr (.tmp 58) (.tmp 66))) (.done))) (.stop))))))))) [0, 1, 4, 67]) (.cond (.tmp 67) (.seq (.reg [.op none (.build 68 [.int .i64 0, .int .i64 0, .slice none 0 0] [(0, 1, .const (.int .i64 4))]), .gh, .op none (.store 3 (.tmp 4) (.tmp 68)), .keep [4]]) (.ret)) (.skip))) (.seq (.reg [.op none (.mv 69 (.tmp 0)), .op none (.mv 70 (.tmp 1)), .op none (.nilc 71 (.tmp 69)), .op none (.faddr 72 4 (.tmp 71)), .op none (.store 1 (.tmp 72) (.tmp 70)), .keep [0, 4]]) (.seq (.reg [.op none (.mv 73 (.tmp 0)), .op none (.nilc 74 (.tmp 73)), .op none (.faddr 75 5 (.tmp 74)), .op none (.store 1 (.tmp 75) (.const (.bool true))), .keep [4]]) (.seq (.reg [.op none (.build 76 [.int .i64 0, .int .i64 0, .slice none 0 0] []), .gh, .op none (.store 3 (.tmp 4) (.tmp 76)), .keep [4]]) (.ret)))))))
def r157 : List RV := [.cell 4 true 3]
theorem k157 : compC Try.prog 77 C157 (Try.f157.body.getD .skip) = some C157.erase := by kernel_rfl
theorem q157 : rvsOf Try.prog Try.f157.results.toList = some r157 := by kernel_rfl
def spec_l5Fin.l0 (x0_0 : Int) (x0_2 : Int) (x0_3 : Int) (x0_4 : (List Int)) (x0_5 : Int) (x0_6 : Int) (x0_7 : Bool) (x0_8 : Int) (x0_9 : Int) (x0_10 : (List Int)) (x0_1 : Int) : Option (Lp Unit (List Int)) := (if x0_1 < (x0_4.length : Int) then ((if 0 ≤ x0_1 ∧ x0_1 < (x0_4.length : Int) then (if (rd 0 x0_4 x0_1) ≥ 0 then (some (decide (IntKind.u64.wrap (x0_2 + (IntKind.u64.wrap x0_1)) ≥ x0_0))) else (some false)) else none) >>= fun (j30 : Bool) => (if j30 = true then (some (.b ([] : List Int))) else (spec_l5Fin.l0 x0_0 x0_2 x0_3 x0_4 x0_5 x0_6 x0_7 x0_8 x0_9 x0_10 (IntKind.i64.wrap (x0_1 + 1))))) else (some (.a ())))
 partial_fixpoint
def spec_l5Fin.f (a0_0 : Int) (a0_1 : Int) (l0_2 : List Int) (a0_3 : Int) (a0_4 : Int) (a0_5 : Bool) (a1 : Int) : Option (Int × Int × (List Int) × Int × Bool) := ((if a0_5 = true then (if a0_4 ≠ a1 then (some true) else (spec_l5Read.f a0_0 a0_1 l0_2 a0_3 a0_4 a0_5 >>= fun t12 => (some (decide (a1 < t12))))) else (spec_l5Read.f a0_0 a0_1 l0_2 a0_3 a0_4 a0_5 >>= fun t16 => (some (decide (a1 < t16))))) >>= fun (j3 : Bool) => (if j3 = true then (some (12, 0, ([] : List Int), a0_4, a0_5)) else (spec_l5Fin.l0 a1 a0_0 a0_1 l0_2 a0_3 a0_4 a0_5 0 0 ([] : List Int) a0_3 >>= fun (y42 : Lp Unit (List Int)) => match y42 with | .a x44 => (spec_l5Read.f a0_0 a0_1 l0_2 a0_3 a0_4 a0_5 >>= fun t47 => (if a1 > IntKind.u64.wrap (t47 + (IntKind.u64.wrap a0_1)) then (some (4, 0, ([] : List Int), a0_4, a0_5)) else (some (0, 0, ([] : List Int), a1, true)))) | .b x44 => (some (12, 0, x44, a0_4, a0_5)))))
def spec_l5Fin.l0_M (x0_0 : Int) (x0_2 : Int) (x0_3 : Int) (x0_4 : (List Int)) (x0_5 : Int) (x0_6 : Int) (x0_7 : Bool) (x0_8 : Int) (x0_9 : Int) (x0_10 : (List Int)) (x0_1 : Int) (y : Lp Unit (List Int)) : Prop := ∀ (K : AE → St → Prop), (∀ x, y = .a x → K (.exit 0) ⟨[(0, .c (.ptr (.arg 0) [] 0)), (1, .c (.sc (.int .u64 x0_0))), (4, .c (.ptr (.tmp 4 0) [] 0))], [(.arg 0, ⟨.box, 0, [.sc (.int .u64 x0_2), .sc (.int .i64 x0_3), .own 1 x0_4.length (encL c_i64 x0_4), .sc (.int .i64 x0_5), .sc (.int .u64 x0_6), .sc (.bool x0_7)]⟩), (.tmp 4 0, ⟨.box, 0, [.sc (.int .i64 x0_8), .sc (.int .i64 x0_9), .own 1 x0_10.length (encL c_u8 x0_10)]⟩)], [], []⟩) → (∀ x, y = .b x → K .ret ⟨[(4, .c (.ptr (.tmp 4 0) [] 0))], [(.arg 0, ⟨.box, 0, [.sc (.int .u64 x0_2), .sc (.int .i64 x0_3), .own 1 x0_4.length (encL c_i64 x0_4), .sc (.int .i64 x0_5), .sc (.int .u64 x0_6), .sc (.bool x0_7)]⟩), (.tmp 4 0, ⟨.box, 0, [.sc (.int .i64 12), .sc (.int .i64 0), .own 1 x.length (encL c_u8 x)]⟩)], [], []⟩) → loopS Try.prog 77 (.ga C157_l0) K ⟨[(0, .c (.ptr (.arg 0) [] 0)), (1, .c (.sc (.int .u64 x0_0))), (4, .c (.ptr (.tmp 4 0) [] 0)), (5, .c (.sc (.int .i64 x0_1)))], [(.arg 0, ⟨.box, 0, [.sc (.int .u64 x0_2), .sc (.int .i64 x0_3), .own 1 x0_4.length (encL c_i64 x0_4), .sc (.int .i64 x0_5), .sc (.int .u64 x0_6), .sc (.bool x0_7)]⟩), (.tmp 4 0, ⟨.box, 0, [.sc (.int .i64 x0_8), .sc (.int .i64 x0_9), .own 1 x0_10.length (encL c_u8 x0_10)]⟩)], [], []⟩
theorem spec_l5Fin.l0_walk (x0_0 : Int) (x0_2 : Int) (x0_3 : Int) (x0_4 : (List Int)) (x0_5 : Int) (x0_6 : Int) (x0_7 : Bool) (x0_8 : Int) (x0_9 : Int) (x0_10 : (List Int)) (x0_1 : Int) (y : Lp Unit (List Int)) (h : spec_l5Fin.l0 x0_0 x0_2 x0_3 x0_4 x0_5 x0_6 x0_7 x0_8 x0_9 x0_10 x0_1 = some y) : spec_l5Fin.l0_M x0_0 x0_2 x0_3 x0_4 x0_5 x0_6 x0_7 x0_8 x0_9 x0_10 x0_1 y := by
 refine spec_l5Fin.l0.partial_correctness x0_0 x0_2 x0_3 x0_4 x0_5 x0_6 x0_7 x0_8 x0_9 x0_10 (motive := fun x0_1 y => spec_l5Fin.l0_M x0_0 x0_2 x0_3 x0_4 x0_5 x0_6 x0_7 x0_8 x0_9 x0_10 x0_1 y) ?_ x0_1 y h
 clear h
 unfold spec_l5Fin.l0_M
 intro rec ih x0_1 y h K hx0 hx1
 refine loop_unroll (ga_k fun G0 G0n G0r G0x => ?_)
 unfold C157_l0
 refine seq_k fun J25 hJ25 => ?_
 refine sr_k fun J26 hJ26 => ?_
 simp +decide only [Nat.reduceAdd, Nat.reduceMul, Int.reduceToNat, ak]
 refine hJ26 _ ?_
 refine cond_k (b := decide (x0_1 < (x0_4.length : Int))) rfl (fun c27 => ?_) (fun c27 => ?_)
 ·replace c27 := of_decide_eq_true c27; rw [if_pos c27] at h
  refine hJ25 _ ?_
  refine seq_k fun J28 hJ28 => ?_
  refine block_k fun B29 B29n B29x B29r B29j => ?_
  obtain ⟨j30, h31, hn⟩ := of_bind h
  refine seq_j (fun st => st = ⟨[(0, .c (.ptr (.arg 0) [] 0)), (1, .c (.sc (.int .u64 x0_0))), (4, .c (.ptr (.tmp 4 0) [] 0)), (5, .c (.sc (.int .i64 x0_1))), (56, .c (.sc (.bool j30)))], [(.arg 0, ⟨.box, 0, [.sc (.int .u64 x0_2), .sc (.int .i64 x0_3), .own 1 x0_4.length (encL c_i64 x0_4), .sc (.int .i64 x0_5), .sc (.int .u64 x0_6), .sc (.bool x0_7)]⟩), (.tmp 4 0, ⟨.box, 0, [.sc (.int .i64 x0_8), .sc (.int .i64 x0_9), .own 1 x0_10.length (encL c_u8 x0_10)]⟩)], [], []⟩) (fun J32 hJ32 => ?_) ?_
  ·replace h := h31; clear hn
   refine ga_k fun G33 G33n G33r G33x => ?_
   refine reg_k ?_
   obtain ⟨b34, h⟩ := of_guard h
   have g35 : (encL c_i64 x0_4)[0 + x0_1.toNat * 1]? = some (.sc (.int .i64 (rd 0 x0_4 x0_1))) := (Vw.whole c_i64_w x0_4).get 0 0 b34.1 b34.2 (by decide)
   simp +decide only [Nat.reduceAdd, Nat.reduceMul, Int.reduceToNat, ak, b34, g35]
   by_cases c36 : (rd 0 x0_4 x0_1) ≥ 0
   ·rw [if_pos c36] at h
    have e37 : decide ((rd 0 x0_4 x0_1) ≥ 0) = true := decide_eq_true c36
    simp +decide only [Nat.reduceAdd, Nat.reduceMul, Int.reduceToNat, ak, e37]
    obtain rfl := Option.some.inj h
    refine G33n _ _ (wk [0, 1, 4, 5, 56] [pI (.arg 0) .box, pI (.tmp 4 0) .box] (h0 := by first | rfl | simp +decide only [ak, akF, b34, e37]) (h := by first | rfl | (simp +decide only [ak, akF, b34, e37]; done) | (simp +decide [ak, akF, b34, e37] <;> omega))) (hJ32 _ rfl)
   ·rw [if_neg c36] at h
    have e38 : decide ((rd 0 x0_4 x0_1) ≥ 0) = false := decide_eq_false c36
    simp +decide only [Nat.reduceAdd, Nat.reduceMul, Int.reduceToNat, ak, e38]
    obtain rfl := Option.some.inj h
    refine G33n _ _ (wk [0, 1, 4, 5, 56] [pI (.arg 0) .box, pI (.tmp 4 0) .box] (h0 := by first | rfl | simp +decide only [ak, akF, b34, e38]) (h := by first | rfl | (simp +decide only [ak, akF, b34, e38]; done) | (simp +decide [ak, akF, b34, e38] <;> omega))) (hJ32 _ rfl)
  ·replace h := hn; clear hn h31
   rintro _ rfl
   refine cond_k (b := j30) rfl (fun c39 => ?_) (fun c39 => ?_)
   ·rw [if_pos c39] at h
    refine sr_k fun J40 hJ40 => ?_
    simp +decide only [Nat.reduceAdd, Nat.reduceMul, Int.reduceToNat, ak]
    refine gho_k (Weak.nmg' 57 2 (.tmp 57 22) 1 (encL c_u8 ([] : List Int)) rfl rfl rfl rfl) ?_
    have g41 : (encL c_u8 ([] : List Int)).length = 0 * 1 := by simp [encL_length c_u8_w]
    simp +decide only [Nat.reduceAdd, Nat.reduceMul, Int.reduceToNat, ak, g41]
    refine hJ40 _ ?_
    obtain rfl := Option.some.inj h
    refine gh_k (st' := ⟨[(4, .c (.ptr (.tmp 4 0) [] 0))], [(.arg 0, ⟨.box, 0, [.sc (.int .u64 x0_2), .sc (.int .i64 x0_3), .own 1 x0_4.length (encL c_i64 x0_4), .sc (.int .i64 x0_5), .sc (.int .u64 x0_6), .sc (.bool x0_7)]⟩), (.tmp 4 0, ⟨.box, 0, [.sc (.int .i64 12), .sc (.int .i64 0), .own 1 (([] : List Int).length) (encL c_u8 ([] : List Int))]⟩)], [], []⟩) (wk [4] [pI (.arg 0) .box, pI (.tmp 4 0) .box] (h := by first | rfl | (simp +decide only [ak, akF]; done) | (simp +decide [ak, akF] <;> omega))) ?_
    refine B29r _ ?_
    refine G0r _ ?_
    exact hx1 _ rfl
   ·rw [if_neg (Bool.eq_false_iff.1 c39)] at h
    refine B29n _ ?_
    refine hJ28 _ ?_
    refine reg_k ?_
    simp +decide only [Nat.reduceAdd, Nat.reduceMul, Int.reduceToNat, ak]
    refine G0n _ _ (wk [0, 1, 4, 5] [pI (.arg 0) .box, pI (.tmp 4 0) .box]) (ih _ _ h K hx0 hx1)
 ·replace c27 := of_decide_eq_false c27; rw [if_neg c27] at h
  obtain rfl := Option.some.inj h
  refine gh_k (wk [0, 1, 4] [pI (.arg 0) .box, pI (.tmp 4 0) .box]) ?_
  refine G0x _ _ ?_
  exact hx0 _ rfl
theorem spec_l5Fin.tri (a0_0 : Int) (a0_1 : Int) (l0_2 : List Int) (a0_3 : Int) (a0_4 : Int) (a0_5 : Bool) (a1 : Int) (r : Int × Int × (List Int) × Int × Bool) (h : spec_l5Fin.f a0_0 a0_1 l0_2 a0_3 a0_4 a0_5 a1 = some r) : Tri Try.prog 157 [.c (.ptr (.arg 0) [] 0), .c (.sc (.int .u64 a1))] [(.arg 0, ⟨.box, 0, [.sc (.int .u64 a0_0), .sc (.int .i64 a0_1), .own 1 l0_2.length (encL c_i64 l0_2), .sc (.int .i64 a0_3), .sc (.int .u64 a0_4), .sc (.bool a0_5)]⟩)] (fun o => o = ⟨.g [.sc (.int .i64 r.1), .sc (.int .i64 r.2.1), .ref (.res 0) [] 0 r.2.2.1.length], [(.arg 0, ⟨.box, 0, [.sc (.int .u64 a0_0), .sc (.int .i64 a0_1), .own 1 l0_2.length (encL c_i64 l0_2), .sc (.int .i64 a0_3), .sc (.int .u64 r.2.2.2.1), .sc (.bool r.2.2.2.2)]⟩), (.res 0, ⟨.lst, 1, encL c_u8 r.2.2.1⟩)], [], []⟩) := by
 refine tri_of_body (ac := C157) (xs := r157) Try.func157 (show Try.f157.body = some (Try.f157.body.getD .skip) from rfl) k157 q157 (Nat.le_of_ble_eq_true rfl) ?_
 refine body_of fun K hKn hKr => ?_
 unfold spec_l5Fin.f at h
 unfold C157
 simp only [initT, Nat.reduceAdd]
 refine sr_k fun J1 hJ1 => ?_
 simp +decide only [Nat.reduceAdd, Nat.reduceMul, Int.reduceToNat, ak]
 refine gho_k (Weak.own (.tmp 4 0) (cs' := [.sc (.int .i64 0), .sc (.int .i64 0), .own 1 (([] : List Int).length) (encL c_u8 ([] : List Int))]) rfl ⟨.inl rfl, .inl rfl, .inr ⟨rfl, _, rfl⟩, trivial⟩) ?_
 simp +decide only [Nat.reduceAdd, Nat.reduceMul, Int.reduceToNat, ak]
 refine hJ1 _ ?_
 refine seq_k fun J2 hJ2 => ?_
 obtain ⟨j3, h4, hn⟩ := of_bind h
 refine seq_j (fun st => st = ⟨[(0, .c (.ptr (.arg 0) [] 0)), (1, .c (.sc (.int .u64 a1))), (4, .c (.ptr (.tmp 4 0) [] 0)), (23, .c (.sc (.bool j3)))], [(.arg 0, ⟨.box, 0, [.sc (.int .u64 a0_0), .sc (.int .i64 a0_1), .own 1 l0_2.length (encL c_i64 l0_2), .sc (.int .i64 a0_3), .sc (.int .u64 a0_4), .sc (.bool a0_5)]⟩), (.tmp 4 0, ⟨.box, 0, [.sc (.int .i64 0), .sc (.int .i64 0), .own 1 (([] : List Int).length) (encL c_u8 ([] : List Int))]⟩)], [], []⟩) (fun J5 hJ5 => ?_) ?_
 ·replace h := h4; clear hn
  refine ga_k fun G6 G6n G6r G6x => ?_
  refine reg_k ?_
  simp +decide only [Nat.reduceAdd, Nat.reduceMul, Int.reduceToNat, ak]
  by_cases c7 : a0_5 = true
  ·rw [if_pos c7] at h
   have e8 : (a0_5) = true := c7
   simp +decide only [Nat.reduceAdd, Nat.reduceMul, Int.reduceToNat, ak, e8]
   by_cases c9 : a0_4 ≠ a1
   ·rw [if_pos c9] at h
    have e10 : decide (a0_4 ≠ a1) = true := decide_eq_true c9
    simp +decide only [Nat.reduceAdd, Nat.reduceMul, Int.reduceToNat, ak, e10]
    obtain rfl := Option.some.inj h
    refine G6n _ _ (wk [0, 1, 4, 23] [pI (.arg 0) .box, pI (.tmp 4 0) .box] (h0 := by first | rfl | simp +decide only [ak, akF, e8, e10]) (h := by first | rfl | (simp +decide only [ak, akF, e8, e10]; done) | (simp +decide [ak, akF, e8, e10] <;> omega))) (hJ5 _ rfl)
   ·rw [if_neg c9] at h
    have e11 : decide (a0_4 ≠ a1) = false := decide_eq_false c9
    simp +decide only [Nat.reduceAdd, Nat.reduceMul, Int.reduceToNat, ak, e11]
    obtain ⟨t12, h13, h⟩ := of_bind h
    refine call_m [(.arg 0, ⟨(.arg 0), [], none, .box⟩)] (s0 := [(.arg 0, ⟨.box, 0, [.sc (.int .u64 a0_0), .sc (.int .i64 a0_1), .own 1 l0_2.length (encL c_i64 l0_2), .sc (.int .i64 a0_3), .sc (.int .u64 a0_4), .sc (.bool a0_5)]⟩)]) (by intro t ht; cases ht; decide) rfl rfl (by first | rfl | simp only [reduceCtorEq, Nat.reduceEqDiff, ak, akF, e8, e11]) (spec_l5Read.tri a0_0 a0_1 l0_2 a0_3 a0_4 a0_5 _ h13) (by first | rfl | simp only [reduceCtorEq, Nat.reduceEqDiff, ak, akF]) (by simp [bkOk2, memK]) (fun hl13 => ?_)
    refine call_st (s4 := [(.arg 0, ⟨.box, 0, [.sc (.int .u64 a0_0), .sc (.int .i64 a0_1), .own 1 l0_2.length (encL c_i64 l0_2), .sc (.int .i64 a0_3), .sc (.int .u64 a0_4), .sc (.bool a0_5)]⟩), (.tmp 4 0, ⟨.box, 0, [.sc (.int .i64 0), .sc (.int .i64 0), .own 1 (([] : List Int).length) (encL c_u8 ([] : List Int))]⟩)]) (m1' := []) (m2' := []) (v' := .c (.sc (.int .u64 t12))) (Sto.mapN_killNil _ _) (mrgL_whole (new' := [.sc (.int .u64 a0_0), .sc (.int .i64 a0_1), .own 1 l0_2.length (encL c_i64 l0_2), .sc (.int .i64 a0_3), .sc (.int .u64 a0_4), .sc (.bool a0_5)]) (mrgL_nil' _ _ _) rfl (by rfl) (.inl ⟨rfl, by first | rfl | simp only [reduceCtorEq, Nat.reduceEqDiff, ak, akF, Nat.zero_add, List.append_nil, e8, e11]⟩)) (by rfl) (mapT_killNil _ _) (by rfl) (by rfl) (by first | rfl | simp only [reduceCtorEq, Nat.reduceEqDiff, ak, akF, Nat.zero_add, List.append_nil, e8, e11]) ?_
    simp +decide only [Nat.reduceAdd, Nat.reduceMul, Int.reduceToNat, ak]
    obtain rfl := Option.some.inj h
    refine G6n _ _ (wk [0, 1, 4, 23] [pI (.arg 0) .box, pI (.tmp 4 0) .box] (h0 := by first | rfl | simp +decide only [ak, akF, e8, e11]) (h := by first | rfl | (simp +decide only [ak, akF, e8, e11]; done) | (simp +decide [ak, akF, e8, e11] <;> omega))) (hJ5 _ rfl)
  ·rw [if_neg c7] at h
   have e15 : (a0_5) = false := Bool.eq_false_iff.2 c7
   simp +decide only [Nat.reduceAdd, Nat.reduceMul, Int.reduceToNat, ak, e15]
   obtain ⟨t16, h17, h⟩ := of_bind h
   refine call_m [(.arg 0, ⟨(.arg 0), [], none, .box⟩)] (s0 := [(.arg 0, ⟨.box, 0, [.sc (.int .u64 a0_0), .sc (.int .i64 a0_1), .own 1 l0_2.length (encL c_i64 l0_2), .sc (.int .i64 a0_3), .sc (.int .u64 a0_4), .sc (.bool a0_5)]⟩)]) (by intro t ht; cases ht; decide) rfl rfl (by first | rfl | simp only [reduceCtorEq, Nat.reduceEqDiff, ak, akF, e15]) (spec_l5Read.tri a0_0 a0_1 l0_2 a0_3 a0_4 a0_5 _ h17) (by first | rfl | simp only [reduceCtorEq, Nat.reduceEqDiff, ak, akF]) (by simp [bkOk2, memK]) (fun hl17 => ?_)
   refine call_st (s4 := [(.arg 0, ⟨.box, 0, [.sc (.int .u64 a0_0), .sc (.int .i64 a0_1), .own 1 l0_2.length (encL c_i64 l0_2), .sc (.int .i64 a0_3), .sc (.int .u64 a0_4), .sc (.bool a0_5)]⟩), (.tmp 4 0, ⟨.box, 0, [.sc (.int .i64 0), .sc (.int .i64 0), .own 1 (([] : List Int).length) (encL c_u8 ([] : List Int))]⟩)]) (m1' := []) (m2' := []) (v' := .c (.sc (.int .u64 t16))) (Sto.mapN_killNil _ _) (mrgL_whole (new' := [.sc (.int .u64 a0_0), .sc (.int .i64 a0_1), .own 1 l0_2.length (encL c_i64 l0_2), .sc (.int .i64 a0_3), .sc (.int .u64 a0_4), .sc (.bool a0_5)]) (mrgL_nil' _ _ _) rfl (by rfl) (.inl ⟨rfl, by first | rfl | simp only [reduceCtorEq, Nat.reduceEqDiff, ak, akF, Nat.zero_add, List.append_nil, e15]⟩)) (by rfl) (mapT_killNil _ _) (by rfl) (by rfl) (by first | rfl | simp only [reduceCtorEq, Nat.reduceEqDiff, ak, akF, Nat.zero_add, List.append_nil, e15]) ?_
   simp +decide only [Nat.reduceAdd, Nat.reduceMul, Int.reduceToNat, ak]
   obtain rfl := Option.some.inj h
   refine G6n _ _ (wk [0, 1, 4, 23] [pI (.arg 0) .box, pI (.tmp 4 0) .box] (h0 := by first | rfl | simp +decide only [ak, akF, e15]) (h := by first | rfl | (simp +decide only [ak, akF, e15]; done) | (simp +decide [ak, akF, e15] <;> omega))) (hJ5 _ rfl)
 ·replace h := hn; clear hn h4
  rintro _ rfl
  refine cond_k (b := j3) rfl (fun c19 => ?_) (fun c19 => ?_)
  ·rw [if_pos c19] at h
   refine sr_k fun J20 hJ20 => ?_
   simp +decide only [Nat.reduceAdd, Nat.reduceMul, Int.reduceToNat, ak]
   refine gho_k (Weak.nmg' 24 2 (.tmp 24 22) 1 (encL c_u8 ([] : List Int)) rfl rfl rfl rfl) ?_
   have g21 : (encL c_u8 ([] : List Int)).length = 0 * 1 := by simp [encL_length c_u8_w]
   simp +decide only [Nat.reduceAdd, Nat.reduceMul, Int.reduceToNat, ak, g21]
   refine hJ20 _ ?_
   obtain rfl := Option.some.inj h
   refine hKr _ ⟨_, rfl, [⟨(.tmp 4 0), [2], none, .lst⟩], _, rfl, rfl, ?_⟩
   first | rfl | (simp only [reduceCtorEq, Nat.reduceEqDiff, ak, akF]; done) | (simp [reduceCtorEq, Nat.reduceEqDiff, ak, akF] <;> omega)
  ·rw [if_neg (Bool.eq_false_iff.1 c19)] at h
   refine hJ2 _ ?_
   refine seq_k fun J22 hJ22 => ?_
   refine sr_k fun J23 hJ23 => ?_
   simp +decide only [Nat.reduceAdd, Nat.reduceMul, Int.reduceToNat, ak]
   refine hJ23 _ ?_
   refine block_k fun B24 B24n B24x B24r B24j => ?_
   obtain ⟨y42, h43, h⟩ := of_bind h
   refine gh_k (wk [0, 1, 4, 5] [pI (.arg 0) .box, pI (.tmp 4 0) .box]) ?_
   rw [e_loop]
   refine spec_l5Fin.l0_walk a1 a0_0 a0_1 l0_2 a0_3 a0_4 a0_5 0 0 ([] : List Int) a0_3 _ h43 _ ?_ ?_
   ·rintro x44 rfl
    dsimp only at h
    refine B24x _ ?_
    refine hJ22 _ ?_
    refine seq_k fun J45 hJ45 => ?_
    refine sd_k fun J46 hJ46 => ?_
    simp +decide only [Nat.reduceAdd, Nat.reduceMul, Int.reduceToNat, ak]
    obtain ⟨t47, h48, h⟩ := of_bind h
    refine alt_e ?_
    ·simp +decide only [Nat.reduceAdd, Nat.reduceMul, Int.reduceToNat, ak]
     refine call_m [(.arg 0, ⟨(.arg 0), [], none, .box⟩)] (s0 := [(.arg 0, ⟨.box, 0, [.sc (.int .u64 a0_0), .sc (.int .i64 a0_1), .own 1 l0_2.length (encL c_i64 l0_2), .sc (.int .i64 a0_3), .sc (.int .u64 a0_4), .sc (.bool a0_5)]⟩)]) (by intro t ht; cases ht; decide) rfl rfl (by first | rfl | simp only [reduceCtorEq, Nat.reduceEqDiff, ak, akF]) (spec_l5Read.tri a0_0 a0_1 l0_2 a0_3 a0_4 a0_5 _ h48) (by first | rfl | simp only [reduceCtorEq, Nat.reduceEqDiff, ak, akF]) (by simp [bkOk2, memK]) (fun hl49 => ?_)
     refine call_st (s4 := [(.arg 0, ⟨.box, 0, [.sc (.int .u64 a0_0), .sc (.int .i64 a0_1), .own 1 l0_2.length (encL c_i64 l0_2), .sc (.int .i64 a0_3), .sc (.int .u64 a0_4), .sc (.bool a0_5)]⟩), (.tmp 4 0, ⟨.box, 0, [.sc (.int .i64 0), .sc (.int .i64 0), .own 1 (([] : List Int).length) (encL c_u8 ([] : List Int))]⟩)]) (m1' := []) (m2' := []) (v' := .c (.sc (.int .u64 t47))) (Sto.mapN_killNil _ _) (mrgL_whole (new' := [.sc (.int .u64 a0_0), .sc (.int .i64 a0_1), .own 1 l0_2.length (encL c_i64 l0_2), .sc (.int .i64 a0_3), .sc (.int .u64 a0_4), .sc (.bool a0_5)]) (mrgL_nil' _ _ _) rfl (by rfl) (.inl ⟨rfl, by first | rfl | simp only [reduceCtorEq, Nat.reduceEqDiff, ak, akF, Nat.zero_add, List.append_nil]⟩)) (by rfl) (mapT_killNil _ _) (by rfl) (by rfl) (by first | rfl | simp only [reduceCtorEq, Nat.reduceEqDiff, ak, akF, Nat.zero_add, List.append_nil]) ?_
     simp +decide only [Nat.reduceAdd, Nat.reduceMul, Int.reduceToNat, ak]
     refine hJ46 _ ?_
     refine cond_k (b := decide (a1 > IntKind.u64.wrap (t47 + (IntKind.u64.wrap a0_1)))) rfl (fun c51 => ?_) (fun c51 => ?_)
     ·replace c51 := of_decide_eq_true c51; rw [if_pos c51] at h
      refine sr_k fun J52 hJ52 => ?_
      simp +decide only [Nat.reduceAdd, Nat.reduceMul, Int.reduceToNat, ak]
      refine gho_k (Weak.nmg' 68 2 (.tmp 68 22) 1 (encL c_u8 ([] : List Int)) rfl rfl rfl rfl) ?_
      have g53 : (encL c_u8 ([] : List Int)).length = 0 * 1 := by simp [encL_length c_u8_w]
      simp +decide only [Nat.reduceAdd, Nat.reduceMul, Int.reduceToNat, ak, g53]
      refine hJ52 _ ?_
      obtain rfl := Option.some.inj h
      refine hKr _ ⟨_, rfl, [⟨(.tmp 4 0), [2], none, .lst⟩], _, rfl, rfl, ?_⟩
      first | rfl | (simp only [reduceCtorEq, Nat.reduceEqDiff, ak, akF]; done) | (simp [reduceCtorEq, Nat.reduceEqDiff, ak, akF] <;> omega)
     ·replace c51 := of_decide_eq_false c51; rw [if_neg c51] at h
      refine hJ45 _ ?_
      refine sr_k fun J54 hJ54 => ?_
      simp +decide only [Nat.reduceAdd, Nat.reduceMul, Int.reduceToNat, ak]
      refine hJ54 _ ?_
      refine sr_k fun J55 hJ55 => ?_
      simp +decide only [Nat.reduceAdd, Nat.reduceMul, Int.reduceToNat, ak]
      refine hJ55 _ ?_
      refine sr_k fun J56 hJ56 => ?_
      simp +decide only [Nat.reduceAdd, Nat.reduceMul, Int.reduceToNat, ak]
      refine gho_k (Weak.nmg' 76 2 (.tmp 76 22) 1 (encL c_u8 ([] : List Int)) rfl rfl rfl rfl) ?_
      have g57 : (encL c_u8 ([] : List Int)).length = 0 * 1 := by simp [encL_length c_u8_w]
      simp +decide only [Nat.reduceAdd, Nat.reduceMul, Int.reduceToNat, ak, g57]
      refine hJ56 _ ?_
      obtain rfl := Option.some.inj h
      refine hKr _ ⟨_, rfl, [⟨(.tmp 4 0), [2], none, .lst⟩], _, rfl, rfl, ?_⟩
      first | rfl | (simp only [reduceCtorEq, Nat.reduceEqDiff, ak, akF]; done) | (simp [reduceCtorEq, Nat.reduceEqDiff, ak, akF] <;> omega)
   ·rintro x44 rfl
    dsimp only at h
    refine B24r _ ?_
    obtain rfl := Option.some.inj h
    refine hKr _ ⟨_, rfl, [⟨(.tmp 4 0), [2], none, .lst⟩], _, rfl, rfl, ?_⟩
    first | rfl | (simp only [reduceCtorEq, Nat.reduceEqDiff, ak, akF]; done) | (simp [reduceCtorEq, Nat.reduceEqDiff, ak, akF] <;> omega)
/-! ### spec.l5Step: function 137 -/
def C137 : AC := .seq (.reg [.op none (.box 3 (.tmp 1)), .op none (.alloc 4 [.int .i64 0, .int .i64 0, .slice none 0 0]), .gh, .keep [0, 3, 4]]) (.seq (.seq (.reg [.op none (.faddr 5 0 (.tmp 3)), .op none (.load 6 false 1 (.tmp 5)), .keep [0, 3, 4, 6]]) (.block 0 (.seq (.reg [.op none (.bin 8 .eql (.tmp 6) (.const (.int .i64 1))), .op none (.mv 7 (.tmp 8)), .keep [0, 3, 4, 6, 7]]) (.cond (.tmp 7) (.seq (.reg [.op none (.mv 9 (.tmp 0)), .op none (.faddr 10 1 (.tmp 3)), .op none (.load 11 false 1 (.tmp 10)), .op none (.faddr 12 2 (.tmp 3)), .op none (.load 13 false 1 (.tmp 12)), .call none (some 14) 155 [.tmp 9, .tmp 11, .tmp 13], .op none (.store 3 (.tmp 4) (.tmp 14)), .keep [4]]) (.gh .ret)) (.seq (.reg [.op none (.bin 16 .eql (.tmp 6) (.const (.int .i64 2))), .op none (.mv 15 (.tmp 16)), .keep [0, 3, 4, 6, 15]]) (.cond (.tmp 15) (.seq (.reg [.op none (.mv 17 (.tmp 0)), .op none (.faddr 18 3 (.tmp 3)), .op none (.load 19 false 1 (.tmp 18)), .call none (some 20) 156 [.tmp 17, .tmp 19], .op none (.store 3 (.tmp 4) (.tmp 20)), .keep [4]]) (.gh .ret)) (.seq (.reg [.op none (.bin 22 .eql (.tmp 6) (.const (.int .i64 3))), .op none (.mv 21 (.tmp 22)), .keep [0, 3, 4, 21]]) (.cond (.tmp 21) (.seq (.reg [.op none (.mv 23 (.tmp 0)), .op none (.faddr 24 1 (.tmp 3)), .op none (.load 25 false 1 (.tmp 24)), .call none (some 26) 157 [.tmp 23, .tmp 25], .op none (.store 3 (.tmp 4) (.tmp 26)), .keep [4]]) (.gh .ret)) (.skip))))))))) (.seq (.reg [.op none (.build 27 [.int .i64 0, .int .i64 0, .slice none 0 0] [(0, 1, .const (.int .i64 1))]), .gh, .op none (.store 3 (.tmp 4) (.tmp 27)), .keep [4]]) (.gh .ret)))
def r137 : List RV := [.cell 4 true 3]
theorem k137 : compC Try.prog 28 C137 (Try.f137.body.getD .skip) = some C137.erase := by kernel_rfl
theorem q137 : rvsOf Try.prog Try.f137.results.toList = some r137 := by kernel_rfl
def spec_l5Step.f (a0_0 : Int) (a0_1 : Int) (l0_2 : List Int) (a0_3 : Int) (a0_4 : Int) (a0_5 : Bool) (a1_0 : Int) (a1_1 : Int) (l1_2 : List Int) (a1_3 : Int) : Option (Int × Int × (List Int) × (List Int) × Int × Int × Bool) := (if a1_0 = 1 then (spec_l5Put.f a0_0 a0_1 l0_2 a0_3 a0_4 a0_5 a1_1 l1_2 >>= fun t8 => (some (t8.1, t8.2.1, t8.2.2.1, t8.2.2.2, a0_3, a0_4, a0_5))) else (if a1_0 = 2 then (spec_l5Take.f a0_0 a0_1 l0_2 a0_3 a0_4 a0_5 a1_3 >>= fun t15 => (some (t15.1, t15.2.1, t15.2.2.1, l0_2, t15.2.2.2, a0_4, a0_5))) else (if a1_0 = 3 then (spec_l5Fin.f a0_0 a0_1 l0_2 a0_3 a0_4 a0_5 a1_1 >>= fun t22 => (some (t22.1, t22.2.1, t22.2.2.1, l0_2, a0_3, t22.2.2.2.1, t22.2.2.2.2))) else (some (1, 0, ([] : List Int), l0_2, a0_3, a0_4, a0_5)))))
theorem spec_l5Step.tri (cs1 : List Cell) (o1 : Nat) (l1_2 : List Int) (hv1 : Vw c_u8 1 cs1 o1 l1_2) (a0_0 : Int) (a0_1 : Int) (l0_2 : List Int) (a0_3 : Int) (a0_4 : Int) (a0_5 : Bool) (a1_0 : Int) (a1_1 : Int) (a1_3 : Int) (r : Int × Int × (List Int) × (List Int) × Int × Int × Bool) (h : spec_l5Step.f a0_0 a0_1 l0_2 a0_3 a0_4 a0_5 a1_0 a1_1 l1_2 a1_3 = some r) : Tri Try.prog 137 [.c (.ptr (.arg 0) [] 0), .g [.sc (.int .i64 a1_0), .sc (.int .u64 a1_1), .ref (.arg 1) [] o1 l1_2.length, .sc (.int .i64 a1_3)]] [(.arg 0, ⟨.box, 0, [.sc (.int .u64 a0_0), .sc (.int .i64 a0_1), .own 1 l0_2.length (encL c_i64 l0_2), .sc (.int .i64 a0_3), .sc (.int .u64 a0_4), .sc (.bool a0_5)]⟩), (.arg 1, ⟨.fz, 1, cs1⟩)] (fun o => o = ⟨.g [.sc (.int .i64 r.1), .sc (.int .i64 r.2.1), .ref (.res 0) [] 0 r.2.2.1.length], [(.arg 0, ⟨.box, 0, [.sc (.int .u64 a0_0), .sc (.int .i64 a0_1), .own 1 r.2.2.2.1.length (encL c_i64 r.2.2.2.1), .sc (.int .i64 r.2.2.2.2.1), .sc (.int .u64 r.2.2.2.2.2.1), .sc (.bool r.2.2.2.2.2.2)]⟩), (.arg 1, ⟨.fz, 1, cs1⟩), (.res 0, ⟨.lst, 1, encL c_u8 r.2.2.1⟩)], [0], []⟩) := by
 refine tri_of_body (ac := C137) (xs := r137) Try.func137 (show Try.f137.body = some (Try.f137.body.getD .skip) from rfl) k137 q137 (Nat.le_of_ble_eq_true rfl) ?_
 refine body_of fun K hKn hKr => ?_
 unfold spec_l5Step.f at h
 unfold C137
 simp only [initT, Nat.reduceAdd]
 refine sr_k fun J1 hJ1 => ?_
 simp +decide only [Nat.reduceAdd, Nat.reduceMul, Int.reduceToNat, ak]
 refine gho_k (Weak.own (.tmp 4 0) (cs' := [.sc (.int .i64 0), .sc (.int .i64 0), .own 1 (([] : List Int).length) (encL c_u8 ([] : List Int))]) rfl ⟨.inl rfl, .inl rfl, .inr ⟨rfl, _, rfl⟩, trivial⟩) ?_
 simp +decide only [Nat.reduceAdd, Nat.reduceMul, Int.reduceToNat, ak]
 refine hJ1 _ ?_
 refine seq_k fun J2 hJ2 => ?_
 refine sr_k fun J3 hJ3 => ?_
 simp +decide only [Nat.reduceAdd, Nat.reduceMul, Int.reduceToNat, ak]
 refine hJ3 _ ?_
 refine block_k fun B4 B4n B4x B4r B4j => ?_
 refine sr_k fun J5 hJ5 => ?_
 simp +decide only [Nat.reduceAdd, Nat.reduceMul, Int.reduceToNat, ak]
 refine hJ5 _ ?_
 refine cond_k (b := decide (a1_0 = 1)) rfl (fun c6 => ?_) (fun c6 => ?_)
 ·replace c6 := of_decide_eq_true c6; rw [if_pos c6] at h
  refine sr_k fun J7 hJ7 => ?_
  simp +decide only [Nat.reduceAdd, Nat.reduceMul, Int.reduceToNat, ak]
  obtain ⟨t8, h9, h⟩ := of_bind h
  refine call_m [(.arg 0, ⟨(.arg 0), [], none, .box⟩), (.arg 1, ⟨(.arg 1), [], none, .fz⟩)] (s0 := [(.arg 0, ⟨.box, 0, [.sc (.int .u64 a0_0), .sc (.int .i64 a0_1), .own 1 l0_2.length (encL c_i64 l0_2), .sc (.int .i64 a0_3), .sc (.int .u64 a0_4), .sc (.bool a0_5)]⟩), (.arg 1, ⟨.fz, 1, cs1⟩)]) (by intro t ht; cases ht; decide) rfl rfl (by first | rfl | simp only [reduceCtorEq, Nat.reduceEqDiff, ak, akF]) (spec_l5Put.tri (cs1) o1 l1_2 hv1 a0_0 a0_1 l0_2 a0_3 a0_4 a0_5 a1_1 _ h9) (by first | rfl | simp only [reduceCtorEq, Nat.reduceEqDiff, ak, akF]) (by simp [bkOk2, memK]) (fun hl9 => ?_)
  refine call_st (s2 := [(.arg 0, ⟨.box, 0, [.sc (.int .u64 a0_0), .sc (.int .i64 a0_1), .own 1 l0_2.length (encL c_i64 l0_2), .sc (.int .i64 a0_3), .sc (.int .u64 a0_4), .sc (.bool a0_5)]⟩), (.arg 1, ⟨.fz, 1, cs1⟩), (.tmp 3 0, ⟨.box, 0, [.sc (.int .i64 a1_0), .sc (.int .u64 a1_1), .ref (.arg 1) [] o1 l1_2.length, .sc (.int .i64 a1_3)]⟩), (.tmp 4 0, ⟨.box, 0, [.sc (.int .i64 0), .sc (.int .i64 0), .own 1 (([] : List Int).length) (encL c_u8 ([] : List Int))]⟩)]) (s4 := [(.arg 0, ⟨.box, 0, [.sc (.int .u64 a0_0), .sc (.int .i64 a0_1), .own 1 t8.2.2.2.length (encL c_i64 t8.2.2.2), .sc (.int .i64 a0_3), .sc (.int .u64 a0_4), .sc (.bool a0_5)]⟩), (.arg 1, ⟨.fz, 1, cs1⟩), (.tmp 3 0, ⟨.box, 0, [.sc (.int .i64 a1_0), .sc (.int .u64 a1_1), .ref (.arg 1) [] o1 l1_2.length, .sc (.int .i64 a1_3)]⟩), (.tmp 4 0, ⟨.box, 0, [.sc (.int .i64 0), .sc (.int .i64 0), .own 1 (([] : List Int).length) (encL c_u8 ([] : List Int))]⟩), (.tmp 14 0, ⟨.lst, 1, encL c_u8 t8.2.2.1⟩)]) (t' := [(0, .c (.ptr (.arg 0) [] 0)), (3, .c (.ptr (.tmp 3 0) [] 0)), (4, .c (.ptr (.tmp 4 0) [] 0)), (6, .c (.sc (.int .i64 a1_0))), (7, .c (.sc (.bool (decide (a1_0 = 1))))), (9, .c (.ptr (.arg 0) [] 0)), (10, .c (.ptr (.tmp 3 0) [] 1)), (11, .c (.sc (.int .u64 a1_1))), (12, .c (.ptr (.tmp 3 0) [] 2)), (13, .c (.ref (.arg 1) [] o1 l1_2.length))]) (m1' := [0]) (m2' := []) (v' := .g [.sc (.int .i64 t8.1), .sc (.int .i64 t8.2.1), .ref (.tmp 14 0) [] 0 t8.2.2.1.length]) (by first | rfl | simp only [reduceCtorEq, Nat.reduceEqDiff, ak, akF, List.contains_nil, List.contains_cons, Nat.reduceBEq]) (mrgL_whole (new' := [.sc (.int .u64 a0_0), .sc (.int .i64 a0_1), .own 1 t8.2.2.2.length (encL c_i64 t8.2.2.2), .sc (.int .i64 a0_3), .sc (.int .u64 a0_4), .sc (.bool a0_5)]) (mrgL_fz (mrgL_nil' _ _ _) rfl (by first | rfl | simp only [reduceCtorEq, Nat.reduceEqDiff, ak]) rfl (by intro R hR hh; cases hR; cases hh.2)) rfl (by rfl) (.inl ⟨rfl, by first | rfl | simp only [reduceCtorEq, Nat.reduceEqDiff, ak, akF, Nat.zero_add, List.append_nil]⟩)) (by rfl) (by first | rfl | simp only [reduceCtorEq, Nat.reduceEqDiff, ak, akF, List.contains_nil, List.contains_cons, Nat.reduceBEq]) (by rfl) (by rfl) (by first | rfl | simp only [reduceCtorEq, Nat.reduceEqDiff, ak, akF, Nat.zero_add, List.append_nil]) ?_
  have g11 : (encL c_u8 t8.2.2.1).length = t8.2.2.1.length * 1 := by simp [encL_length c_u8_w]
  simp +decide only [Nat.reduceAdd, Nat.reduceMul, Int.reduceToNat, ak, g11]
  refine hJ7 _ ?_
  refine gh_k (Weak.mark [0] [] (by simp) (by simp)) ?_
  refine B4r _ ?_
  obtain rfl := Option.some.inj h
  refine hKr _ ⟨_, rfl, [⟨(.tmp 4 0), [2], none, .lst⟩], _, rfl, rfl, ?_⟩
  first | rfl | (simp only [reduceCtorEq, Nat.reduceEqDiff, ak, akF]; done) | (simp [reduceCtorEq, Nat.reduceEqDiff, ak, akF] <;> omega)
 ·replace c6 := of_decide_eq_false c6; rw [if_neg c6] at h
  refine sr_k fun J12 hJ12 => ?_
  simp +decide only [Nat.reduceAdd, Nat.reduceMul, Int.reduceToNat, ak]
  refine hJ12 _ ?_
  refine cond_k (b := decide (a1_0 = 2)) rfl (fun c13 => ?_) (fun c13 => ?_)
  ·replace c13 := of_decide_eq_true c13; rw [if_pos c13] at h
   refine sr_k fun J14 hJ14 => ?_
   simp +decide only [Nat.reduceAdd, Nat.reduceMul, Int.reduceToNat, ak]
   obtain ⟨t15, h16, h⟩ := of_bind h
   refine call_m [(.arg 0, ⟨(.arg 0), [], none, .box⟩)] (s0 := [(.arg 0, ⟨.box, 0, [.sc (.int .u64 a0_0), .sc (.int .i64 a0_1), .own 1 l0_2.length (encL c_i64 l0_2), .sc (.int .i64 a0_3), .sc (.int .u64 a0_4), .sc (.bool a0_5)]⟩)]) (by intro t ht; cases ht; decide) rfl rfl (by first | rfl | simp only [reduceCtorEq, Nat.reduceEqDiff, ak, akF]) (spec_l5Take.tri a0_0 a0_1 l0_2 a0_3 a0_4 a0_5 a1_3 _ h16) (by first | rfl | simp only [reduceCtorEq, Nat.reduceEqDiff, ak, akF]) (by simp [bkOk2, memK]) (fun hl16 => ?_)
   refine call_st (s4 := [(.arg 0, ⟨.box, 0, [.sc (.int .u64 a0_0), .sc (.int .i64 a0_1), .own 1 l0_2.length (encL c_i64 l0_2), .sc (.int .i64 t15.2.2.2), .sc (.int .u64 a0_4), .sc (.bool a0_5)]⟩), (.arg 1, ⟨.fz, 1, cs1⟩), (.tmp 3 0, ⟨.box, 0, [.sc (.int .i64 a1_0), .sc (.int .u64 a1_1), .ref (.arg 1) [] o1 l1_2.length, .sc (.int .i64 a1_3)]⟩), (.tmp 4 0, ⟨.box, 0, [.sc (.int .i64 0), .sc (.int .i64 0), .own 1 (([] : List Int).length) (encL c_u8 ([] : List Int))]⟩), (.tmp 20 0, ⟨.lst, 1, encL c_u8 t15.2.2.1⟩)]) (m1' := []) (m2' := []) (v' := .g [.sc (.int .i64 t15.1), .sc (.int .i64 t15.2.1), .ref (.tmp 20 0) [] 0 t15.2.2.1.length]) (Sto.mapN_killNil _ _) (mrgL_whole (new' := [.sc (.int .u64 a0_0), .sc (.int .i64 a0_1), .own 1 l0_2.length (encL c_i64 l0_2), .sc (.int .i64 t15.2.2.2), .sc (.int .u64 a0_4), .sc (.bool a0_5)]) (mrgL_nil' _ _ _) rfl (by rfl) (.inl ⟨rfl, by first | rfl | simp only [reduceCtorEq, Nat.reduceEqDiff, ak, akF, Nat.zero_add, List.append_nil]⟩)) (by rfl) (mapT_killNil _ _) (by rfl) (by rfl) (by first | rfl | simp only [reduceCtorEq, Nat.reduceEqDiff, ak, akF, Nat.zero_add, List.append_nil]) ?_
   have g18 : (encL c_u8 t15.2.2.1).length = t15.2.2.1.length * 1 := by simp [encL_length c_u8_w]
   simp +decide only [Nat.reduceAdd, Nat.reduceMul, Int.reduceToNat, ak, g18]
   refine hJ14 _ ?_
   refine gh_k (Weak.mark [0] [] (by simp) (by simp)) ?_
   refine B4r _ ?_
   obtain rfl := Option.some.inj h
   refine hKr _ ⟨_, rfl, [⟨(.tmp 4 0), [2], none, .lst⟩], _, rfl, rfl, ?_⟩
   first | rfl | (simp only [reduceCtorEq, Nat.reduceEqDiff, ak, akF]; done) | (simp [reduceCtorEq, Nat.reduceEqDiff, ak, akF] <;> omega)
  ·replace c13 := of_decide_eq_false c13; rw [if_neg c13] at h
   refine sr_k fun J19 hJ19 => ?_
   simp +decide only [Nat.reduceAdd, Nat.reduceMul, Int.reduceToNat, ak]
   refine hJ19 _ ?_
   refine cond_k (b := decide (a1_0 = 3)) rfl (fun c20 => ?_) (fun c20 => ?_)
   ·replace c20 := of_decide_eq_true c20; rw [if_pos c20] at h
    refine sr_k fun J21 hJ21 => ?_
    simp +decide only [Nat.reduceAdd, Nat.reduceMul, Int.reduceToNat, ak]
    obtain ⟨t22, h23, h⟩ := of_bind h
    refine call_m [(.arg 0, ⟨(.arg 0), [], none, .box⟩)] (s0 := [(.arg 0, ⟨.box, 0, [.sc (.int .u64 a0_0), .sc (.int .i64 a0_1), .own 1 l0_2.length (encL c_i64 l0_2), .sc (.int .i64 a0_3), .sc (.int .u64 a0_4), .sc (.bool a0_5)]⟩)]) (by intro t ht; cases ht; decide) rfl rfl (by first | rfl | simp only [reduceCtorEq, Nat.reduceEqDiff, ak, akF]) (spec_l5Fin.tri a0_0 a0_1 l0_2 a0_3 a0_4 a0_5 a1_1 _ h23) (by first | rfl | simp only [reduceCtorEq, Nat.reduceEqDiff, ak, akF]) (by simp [bkOk2, memK]) (fun hl23 => ?_)
    refine call_st (s4 := [(.arg 0, ⟨.box, 0, [.sc (.int .u64 a0_0), .sc (.int .i64 a0_1), .own 1 l0_2.length (encL c_i64 l0_2), .sc (.int .i64 a0_3), .sc (.int .u64 t22.2.2.2.1), .sc (.bool t22.2.2.2.2)]⟩), (.arg 1, ⟨.fz, 1, cs1⟩), (.tmp 3 0, ⟨.box, 0, [.sc (.int .i64 a1_0), .sc (.int .u64 a1_1), .ref (.arg 1) [] o1 l1_2.length, .sc (.int .i64 a1_3)]⟩), (.tmp 4 0, ⟨.box, 0, [.sc (.int .i64 0), .sc (.int .i64 0), .own 1 (([] : List Int).length) (encL c_u8 ([] : List Int))]⟩), (.tmp 26 0, ⟨.lst, 1, encL c_u8 t22.2.2.1⟩)]) (m1' := []) (m2' := []) (v' := .g [.sc (.int .i64 t22.1), .sc (.int .i64 t22.2.1), .ref (.tmp 26 0) [] 0 t22.2.2.1.length]) (Sto.mapN_killNil _ _) (mrgL_whole (new' := [.sc (.int .u64 a0_0), .sc (.int .i64 a0_1), .own 1 l0_2.length (encL c_i64 l0_2), .sc (.int .i64 a0_3), .sc (.int .u64 t22.2.2.2.1), .sc (.bool t22.2.2.2.2)]) (mrgL_nil' _ _ _) rfl (by rfl) (.inl ⟨rfl, by first | rfl | simp only [reduceCtorEq, Nat.reduceEqDiff, ak, akF, Nat.zero_add, List.append_nil]⟩)) (by rfl) (mapT_killNil _ _) (by rfl) (by rfl) (by first | rfl | simp only [reduceCtorEq, Nat.reduceEqDiff, ak, akF, Nat.zero_add, List.append_nil]) ?_
    have g25 : (encL c_u8 t22.2.2.1).length = t22.2.2.1.length * 1 := by simp [encL_length c_u8_w]
    simp +decide only [Nat.reduceAdd, Nat.reduceMul, Int.reduceToNat, ak, g25]
    refine hJ21 _ ?_
    refine gh_k (Weak.mark [0] [] (by simp) (by simp)) ?_
    refine B4r _ ?_
    obtain rfl := Option.some.inj h
    refine hKr _ ⟨_, rfl, [⟨(.tmp 4 0), [2], none, .lst⟩], _, rfl, rfl, ?_⟩
    first | rfl | (simp only [reduceCtorEq, Nat.reduceEqDiff, ak, akF]; done) | (simp [reduceCtorEq, Nat.reduceEqDiff, ak, akF] <;> omega)
   ·replace c20 := of_decide_eq_false c20; rw [if_neg c20] at h
    refine B4n _ ?_
    refine hJ2 _ ?_
    refine sr_k fun J26 hJ26 => ?_
    simp +decide only [Nat.reduceAdd, Nat.reduceMul, Int.reduceToNat, ak]
    refine gho_k (Weak.nmg' 27 2 (.tmp 27 22) 1 (encL c_u8 ([] : List Int)) rfl rfl rfl rfl) ?_
    have g27 : (encL c_u8 ([] : List Int)).length = 0 * 1 := by simp [encL_length c_u8_w]
    simp +decide only [Nat.reduceAdd, Nat.reduceMul, Int.reduceToNat, ak, g27]
    refine hJ26 _ ?_
    refine gh_k (Weak.mark [0] [] (by simp) (by simp)) ?_
    obtain rfl := Option.some.inj h
    refine hKr _ ⟨_, rfl, [⟨(.tmp 4 0), [2], none, .lst⟩], _, rfl, rfl, ?_⟩
    first | rfl | (simp only [reduceCtorEq, Nat.reduceEqDiff, ak, akF]; done) | (simp [reduceCtorEq, Nat.reduceEqDiff, ak, akF] <;> omega)
end Go.AK
