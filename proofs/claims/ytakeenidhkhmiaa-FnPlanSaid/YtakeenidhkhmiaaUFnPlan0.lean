-- by a program of this session (wip/ak/pw.py)
import Derived.Test.YtakeenidhkhmiaaAk2
import Derived.KernelRfl
import Derived.Test.YtakeenidhkhmiaaChecked
set_option synthInstance.maxSize 20000
set_option synthInstance.maxHeartbeats 400000
set_option maxRecDepth 100000
set_option maxHeartbeats 4000000
set_option linter.unusedVariables false
set_option linter.unusedSimpArgs false
namespace Go.AK
open Go Go.Proofs
open Nat (reduceAdd reduceMul)
open Int (reduceToNat)
def c_u8 (x : Int) : List Cell := [.sc (.int .u8 x)]
theorem c_u8_w (x : Int) : (c_u8 x).length = 1 := rfl
def c_i64 (x : Int) : List Cell := [.sc (.int .i64 x)]
theorem c_i64_w (x : Int) : (c_i64 x).length = 1 := rfl
structure S86 where
 f0 : Int
 f1 : Int
 f2 : Int
def z86 : S86 := ⟨0, 0, 0⟩
theorem S86.eta (x : S86) : (⟨x.f0, x.f1, x.f2⟩ : S86) = x := rfl
def c86 (x : S86) : List Cell := [.sc (.int .i64 x.f0), .sc (.int .i64 x.f1), .sc (.int .i64 x.f2)]
theorem c86_w (x : S86) : (c86 x).length = 3 := rfl
structure S84 where
 f0 : Int
 f1 : Int
 f2 : Int
 f3 : Int
 f4 : Int
def z84 : S84 := ⟨0, 0, 0, 0, 0⟩
theorem S84.eta (x : S84) : (⟨x.f0, x.f1, x.f2, x.f3, x.f4⟩ : S84) = x := rfl
def c84 (x : S84) : List Cell := [.sc (.int .u64 x.f0), .sc (.int .i64 x.f1), .sc (.int .i64 x.f2), .sc (.int .i64 x.f3), .sc (.int .i64 x.f4)]
theorem c84_w (x : S84) : (c84 x).length = 5 := rfl
/-! ### spec.l1Begin: function 91 -/
def C91_l0 : AC := .seq (.sr [.m 8 4, .m 9 0, .ln 10 9, .o (.bin 11 .lss (.t 8) (.t 10)), .keep [0, 2, 3, 4, 11]] (.cond (.t 11) (.skip) (.gh (.exit 0)))) (.seq (.block 1 (.regD (.f (.fa 14 2 3) (.f (.ld 15 1 14) (.f (.m 16 0) (.f (.m 17 4) (.f (.ia 18 1 16 17) (.f (.ld 19 1 18) (.f (.o (.conv 20 .u64 (.t 19))) (.f (.o (.bin 21 .xor (.t 15) (.t 20))) (.f (.o (.bin 22 .mul (.t 21) (.const (.int .u64 1099511628211)))) (.f (.fa 23 2 3) (.alt (.st 1 23 22) none (.done) (.stop)))))))))))) [0, 2, 3, 4])) (.reg [.m 12 4, .o (.bin 13 .add (.t 12) (.k 1)), .m 4 13, .keep [0, 2, 3, 4]]))
def C91 : AC := .sr [.o (.alloc 2 [.slice none 0 0, .int .i64 0, .int .u64 0]), .gh, .keep [0, 2]] (.sr [.m 5 0, .o (.build 6 [.slice none 0 0, .int .i64 0, .int .u64 0] [(0, 1, .tmp 5)]), .gh, .o (.alloc 3 [.slice none 0 0, .int .i64 0, .int .u64 0]), .gh, .st 3 3 6, .keep [0, 2, 3]] (.sr [.fa 7 2 3, .o (.store 1 (.t 7) (.const (.int .u64 1469598103934665603))), .keep [0, 2, 3]] (.seq (.sr [.o (.mv 4 (.k 0)), .keep [0, 2, 3, 4]] (.block 0 (.gh (.loop (.ga C91_l0))))) (.sr [.o (.load 24 true 3 (.t 3)), .st 3 2 24, .keep [2]] (.ret)))))
def r91 : List RV := [.cell 2 true 3]
theorem k91 : compC Try.prog 25 C91 (Try.f91.body.getD .skip) = some C91.erase := by kernel_rfl
theorem q91 : rvsOf Try.prog Try.f91.results.toList = some r91 := by kernel_rfl
def spec_l1Begin.l0 (l0 : List Int) (x0_1 : (List Int)) (x0_2 : Int) (x0_3 : Int) (x0_4 : Int) (x0_0 : Int) (x0_5 : Int) : Option Int := (if x0_0 < (l0.length : Int) then (if 0 ≤ x0_0 ∧ x0_0 < (l0.length : Int) then (spec_l1Begin.l0 l0 x0_1 x0_2 x0_3 x0_4 (IntKind.i64.wrap (x0_0 + 1)) (IntKind.u64.wrap ((bits .xor .u64 x0_5 (IntKind.u64.wrap (rd 0 l0 x0_0))) * 1099511628211))) else none) else (some x0_5))
 partial_fixpoint
def spec_l1Begin.f (l0 : List Int) : Option (Int × Int) := (spec_l1Begin.l0 l0 ([] : List Int) 0 0 0 0 1469598103934665603 >>= fun (y14 : Int) => (some (0, y14)))
def spec_l1Begin.l0_M (cs0 : List Cell) (o0 : Nat) (l0 : List Int) (hv0 : Vw c_u8 1 cs0 o0 l0) (x0_1 : (List Int)) (x0_2 : Int) (x0_3 : Int) (x0_4 : Int) (x0_0 : Int) (x0_5 : Int) (y : Int) : Prop := ∀ (K : AE → St → Prop), (K (.exit 0) ⟨[(2, .c (.ptr (.tmp 2 0) [] 0)), (3, .c (.ptr (.tmp 3 0) [] 0))], [(.arg 0, ⟨.fz, 1, cs0⟩), (.tmp 2 0, ⟨.box, 0, [.own 1 x0_1.length (encL c_u8 x0_1), .sc (.int .i64 x0_2), .sc (.int .u64 x0_3)]⟩), (.tmp 3 0, ⟨.box, 0, [.ref (.arg 0) [] o0 l0.length, .sc (.int .i64 x0_4), .sc (.int .u64 y)]⟩)], [], []⟩) → loopS Try.prog 25 (.ga C91_l0) K ⟨[(0, .c (.ref (.arg 0) [] o0 l0.length)), (2, .c (.ptr (.tmp 2 0) [] 0)), (3, .c (.ptr (.tmp 3 0) [] 0)), (4, .c (.sc (.int .i64 x0_0)))], [(.arg 0, ⟨.fz, 1, cs0⟩), (.tmp 2 0, ⟨.box, 0, [.own 1 x0_1.length (encL c_u8 x0_1), .sc (.int .i64 x0_2), .sc (.int .u64 x0_3)]⟩), (.tmp 3 0, ⟨.box, 0, [.ref (.arg 0) [] o0 l0.length, .sc (.int .i64 x0_4), .sc (.int .u64 x0_5)]⟩)], [], []⟩
theorem spec_l1Begin.l0_walk (cs0 : List Cell) (o0 : Nat) (l0 : List Int) (hv0 : Vw c_u8 1 cs0 o0 l0) (x0_1 : (List Int)) (x0_2 : Int) (x0_3 : Int) (x0_4 : Int) (x0_0 : Int) (x0_5 : Int) (y : Int) (h : spec_l1Begin.l0 l0 x0_1 x0_2 x0_3 x0_4 x0_0 x0_5 = some y) : spec_l1Begin.l0_M cs0 o0 l0 hv0 x0_1 x0_2 x0_3 x0_4 x0_0 x0_5 y := by
 refine spec_l1Begin.l0.partial_correctness l0 x0_1 x0_2 x0_3 x0_4 (motive := fun x0_0 x0_5 y => spec_l1Begin.l0_M cs0 o0 l0 hv0 x0_1 x0_2 x0_3 x0_4 x0_0 x0_5 y) ?_ x0_0 x0_5 y h
 clear h
 unfold spec_l1Begin.l0_M
 intro rec ih x0_0 x0_5 y h K hx0
 refine loop_unroll (ga_k fun G0 G0n G0r G0x => ?_)
 unfold C91_l0
 refine seq_k fun J7 hJ7 => ?_
 refine sr_k fun J8 hJ8 => ?_
 simp +decide only [reduceAdd, reduceMul, reduceToNat, ak]
 refine hJ8 _ ?_
 refine cond_k (b := decide (x0_0 < (l0.length : Int))) rfl (fun c9 => ?_) (fun c9 => ?_)
 ·replace c9 := of_decide_eq_true c9; rw [if_pos c9] at h
  refine hJ7 _ ?_
  refine seq_k fun J10 hJ10 => ?_
  refine block_k fun B11 B11n B11x B11r B11j => ?_
  refine regD_k ?_
  obtain ⟨b12, h⟩ := of_guard h
  have g13 : (cs0)[o0 + x0_0.toNat * 1]? = some (.sc (.int .u8 (rd 0 l0 x0_0))) := hv0.get 0 0 b12.1 b12.2 (by decide)
  simp +decide only [reduceAdd, reduceMul, reduceToNat, ak, b12, g13]
  refine alt_e ?_
  ·simp +decide only [reduceAdd, reduceMul, reduceToNat, ak]
   refine B11n _ ?_
   refine hJ10 _ ?_
   refine reg_k ?_
   simp +decide only [reduceAdd, reduceMul, reduceToNat, ak]
   refine G0n _ _ (wk [0, 2, 3, 4] [pI (.arg 0) .fz, pI (.tmp 2 0) .box, pI (.tmp 3 0) .box]) (ih _ _ _ h K hx0)
 ·replace c9 := of_decide_eq_false c9; rw [if_neg c9] at h
  obtain rfl := Option.some.inj h
  refine gh_k (wk [2, 3] [pI (.arg 0) .fz, pI (.tmp 2 0) .box, pI (.tmp 3 0) .box]) ?_
  refine G0x _ _ ?_
  exact hx0
theorem spec_l1Begin.tri (cs0 : List Cell) (o0 : Nat) (l0 : List Int) (hv0 : Vw c_u8 1 cs0 o0 l0) (r : Int × Int) (h : spec_l1Begin.f l0 = some r) : Tri Try.prog 91 [.c (.ref (.arg 0) [] o0 l0.length)] [(.arg 0, ⟨.fz, 1, cs0⟩)] (fun o => o = ⟨.g [.ref (.arg 0) [] o0 l0.length, .sc (.int .i64 r.1), .sc (.int .u64 r.2)], [(.arg 0, ⟨.fz, 1, cs0⟩)], [], []⟩) := by
 refine tri_of_body (ac := C91) (xs := r91) Try.func91 (show Try.f91.body = some (Try.f91.body.getD .skip) from rfl) k91 q91 (Nat.le_of_ble_eq_true rfl) ?_
 refine body_of fun K hKn hKr => ?_
 unfold spec_l1Begin.f at h
 unfold C91
 simp only [initT, Nat.reduceAdd]
 refine sr_k fun J1 hJ1 => ?_
 simp +decide only [reduceAdd, reduceMul, reduceToNat, ak]
 refine gho_k (Weak.own (.tmp 2 0) (cs' := [.own 1 (([] : List Int).length) (encL c_u8 ([] : List Int)), .sc (.int .i64 0), .sc (.int .u64 0)]) rfl ⟨.inr ⟨rfl, _, rfl⟩, .inl rfl, .inl rfl, trivial⟩) ?_
 simp +decide only [reduceAdd, reduceMul, reduceToNat, ak]
 refine hJ1 _ ?_
 refine sr_k fun J2 hJ2 => ?_
 simp +decide only [reduceAdd, reduceMul, reduceToNat, ak]
 refine gho_k (Weak.refl _ _) ?_
 simp +decide only [reduceAdd, reduceMul, reduceToNat, ak]
 refine gho_k (Weak.own (.tmp 3 0) (cs' := [.own 1 (([] : List Int).length) (encL c_u8 ([] : List Int)), .sc (.int .i64 0), .sc (.int .u64 0)]) rfl ⟨.inr ⟨rfl, _, rfl⟩, .inl rfl, .inl rfl, trivial⟩) ?_
 simp +decide only [reduceAdd, reduceMul, reduceToNat, ak]
 refine hJ2 _ ?_
 refine sr_k fun J3 hJ3 => ?_
 simp +decide only [reduceAdd, reduceMul, reduceToNat, ak]
 refine hJ3 _ ?_
 refine seq_k fun J4 hJ4 => ?_
 refine sr_k fun J5 hJ5 => ?_
 simp +decide only [reduceAdd, reduceMul, reduceToNat, ak]
 refine hJ5 _ ?_
 refine block_k fun B6 B6n B6x B6r B6j => ?_
 obtain ⟨y14, h15, h⟩ := of_bind h
 refine gh_k (wk [0, 2, 3, 4] [pI (.arg 0) .fz, pI (.tmp 2 0) .box, pI (.tmp 3 0) .box]) ?_
 rw [e_loop]
 refine spec_l1Begin.l0_walk cs0 o0 l0 hv0 ([] : List Int) 0 0 0 0 1469598103934665603 _ h15 _ ?_
 refine B6x _ ?_
 refine hJ4 _ ?_
 refine sr_k fun J16 hJ16 => ?_
 simp +decide only [reduceAdd, reduceMul, reduceToNat, ak]
 refine hJ16 _ ?_
 obtain rfl := Option.some.inj h
 refine hKr _ ⟨_, rfl, [], _, rfl, rfl, ?_⟩
 exact cl
/-! ### spec.l1Next: function 92 -/
def C92 : AC := .sr [.o (.mv 4 (.k 0)), .keep [0, 1]] (.seq (.sr [.m 6 1, .o (.bin 7 .leq (.t 6) (.k 0)), .keep [0, 1, 7]] (.cond (.t 7) (.sr [.o (.mv 4 (.k 0)), .keep [4]] (.ret)) (.skip))) (.sr [.m 8 0, .m 9 0, .o (.nilc 10 (.t 9)), .fa 11 2 10, .ld 12 1 11, .o (.bin 13 .mul (.t 12) (.const (.int .u64 6364136223846793005))), .o (.bin 14 .add (.t 13) (.const (.int .u64 1442695040888963407))), .o (.nilc 15 (.t 8)), .fa 16 2 15, .st 1 16 14, .keep [0, 1]] (.sr [.m 17 0, .o (.nilc 18 (.t 17)), .fa 19 2 18, .ld 20 1 19, .o (.bin 21 .shr (.t 20) (.const (.int .u64 33))), .m 5 21, .keep [0, 1, 5]] (.seq (.ga (.seq (.regD (.f (.m 22 0) (.f (.o (.nilc 23 (.t 22))) (.f (.fa 24 1 23) (.f (.ld 25 1 24) (.f (.m 26 0) (.f (.o (.nilc 27 (.t 26))) (.f (.fa 28 0 27) (.f (.ld 29 1 28) (.f (.ln 30 29) (.f (.o (.bin 31 .lss (.t 25) (.t 30))) (.done))))))))))) [0, 1, 5, 31]) (.cond (.t 31) (.seq (.regD (.f (.m 32 5) (.f (.m 33 0) (.f (.o (.nilc 34 (.t 33))) (.f (.fa 35 0 34) (.f (.ld 36 1 35) (.f (.m 37 0) (.f (.o (.nilc 38 (.t 37))) (.f (.fa 39 1 38) (.f (.ld 40 1 39) (.f (.ia 41 1 36 40) (.f (.ld 42 1 41) (.f (.o (.conv 43 .u64 (.t 42))) (.f (.o (.bin 44 .xor (.t 32) (.t 43))) (.f (.m 5 44) (.done))))))))))))))) [0, 1, 5]) (.reg [.m 45 0, .m 46 0, .o (.nilc 47 (.t 46)), .fa 48 1 47, .ld 49 1 48, .o (.bin 50 .add (.t 49) (.k 1)), .o (.nilc 51 (.t 45)), .fa 52 1 51, .st 1 52 50, .keep [1, 5]])) (.skip)))) (.sr [.m 53 5, .m 54 1, .o (.conv 55 .u64 (.t 54)), .o (.bin 56 .rem (.t 53) (.t 55)), .o (.conv 57 .i64 (.t 56)), .m 4 57, .keep [4]] (.ret))))))
def r92 : List RV := [.tmp 4]
theorem k92 : compC Try.prog 58 C92 (Try.f92.body.getD .skip) = some C92.erase := by kernel_rfl
theorem q92 : rvsOf Try.prog Try.f92.results.toList = some r92 := by kernel_rfl
def spec_l1Next.f (l0_0 : List Int) (a0_1 : Int) (a0_2 : Int) (a1 : Int) : Option (Int × Int × Int) := (if a1 ≤ 0 then (some (0, a0_1, a0_2)) else ((if a0_1 < (l0_0.length : Int) then (if 0 ≤ a0_1 ∧ a0_1 < (l0_0.length : Int) then (some (bits .xor .u64 ((IntKind.u64.wrap ((IntKind.u64.wrap (a0_2 * 6364136223846793005)) + 1442695040888963407)).fdiv (2 ^ 33)) (IntKind.u64.wrap (rd 0 l0_0 a0_1)), IntKind.i64.wrap (a0_1 + 1))) else none) else (some ((IntKind.u64.wrap ((IntKind.u64.wrap (a0_2 * 6364136223846793005)) + 1442695040888963407)).fdiv (2 ^ 33), a0_1))) >>= fun (j9 : Int × Int) => (if ¬ IntKind.u64.wrap a1 = 0 then (some (IntKind.i64.wrap (j9.1.tmod (IntKind.u64.wrap a1)), j9.2, IntKind.u64.wrap ((IntKind.u64.wrap (a0_2 * 6364136223846793005)) + 1442695040888963407))) else none)))
theorem spec_l1Next.tri (cs1 : List Cell) (o1 : Nat) (l0_0 : List Int) (hv1 : Vw c_u8 1 cs1 o1 l0_0) (a0_1 : Int) (a0_2 : Int) (a1 : Int) (r : Int × Int × Int) (h : spec_l1Next.f l0_0 a0_1 a0_2 a1 = some r) : Tri Try.prog 92 [.c (.ptr (.arg 0) [] 0), .c (.sc (.int .i64 a1))] [(.arg 0, ⟨.box, 0, [.ref (.arg 1) [] o1 l0_0.length, .sc (.int .i64 a0_1), .sc (.int .u64 a0_2)]⟩), (.arg 1, ⟨.fz, 1, cs1⟩)] (fun o => o = ⟨.c (.sc (.int .i64 r.1)), [(.arg 0, ⟨.box, 0, [.ref (.arg 1) [] o1 l0_0.length, .sc (.int .i64 r.2.1), .sc (.int .u64 r.2.2)]⟩), (.arg 1, ⟨.fz, 1, cs1⟩)], [], []⟩) := by
 refine tri_of_body (ac := C92) (xs := r92) Try.func92 (show Try.f92.body = some (Try.f92.body.getD .skip) from rfl) k92 q92 (Nat.le_of_ble_eq_true rfl) ?_
 refine body_of fun K hKn hKr => ?_
 unfold spec_l1Next.f at h
 unfold C92
 simp only [initT, Nat.reduceAdd]
 refine sr_k fun J1 hJ1 => ?_
 simp +decide only [reduceAdd, reduceMul, reduceToNat, ak]
 refine hJ1 _ ?_
 refine seq_k fun J2 hJ2 => ?_
 refine sr_k fun J3 hJ3 => ?_
 simp +decide only [reduceAdd, reduceMul, reduceToNat, ak]
 refine hJ3 _ ?_
 refine cond_k (b := decide (a1 ≤ 0)) rfl (fun c4 => ?_) (fun c4 => ?_)
 ·replace c4 := of_decide_eq_true c4; rw [if_pos c4] at h
  refine sr_k fun J5 hJ5 => ?_
  simp +decide only [reduceAdd, reduceMul, reduceToNat, ak]
  refine hJ5 _ ?_
  obtain rfl := Option.some.inj h
  refine hKr _ ⟨_, rfl, [], _, rfl, rfl, ?_⟩
  exact cl
 ·replace c4 := of_decide_eq_false c4; rw [if_neg c4] at h
  refine hJ2 _ ?_
  refine sr_k fun J6 hJ6 => ?_
  simp +decide only [reduceAdd, reduceMul, reduceToNat, ak]
  refine hJ6 _ ?_
  refine sr_k fun J7 hJ7 => ?_
  have g8 : ∀ a, abin .shr (.int .u64 a) (.int .u64 33) = some (.int .u64 (a.fdiv (2 ^ 33))) := fun a => akShrL _ _ a 33 (by decide)
  simp +decide only [reduceAdd, reduceMul, reduceToNat, ak, g8]
  refine hJ7 _ ?_
  obtain ⟨j9, h10, hn⟩ := of_bind h
  refine seq_j (fun st => st = ⟨[(1, .c (.sc (.int .i64 a1))), (5, .c (.sc (.int .u64 j9.1)))], [(.arg 0, ⟨.box, 0, [.ref (.arg 1) [] o1 l0_0.length, .sc (.int .i64 j9.2), .sc (.int .u64 (IntKind.u64.wrap ((IntKind.u64.wrap (a0_2 * 6364136223846793005)) + 1442695040888963407)))]⟩), (.arg 1, ⟨.fz, 1, cs1⟩)], [], []⟩) (fun J11 hJ11 => ?_) ?_
  ·replace h := h10; clear hn
   refine ga_k fun G12 G12n G12r G12x => ?_
   refine sd_k fun J13 hJ13 => ?_
   simp +decide only [reduceAdd, reduceMul, reduceToNat, ak]
   refine hJ13 _ ?_
   refine cond_k (b := decide (a0_1 < (l0_0.length : Int))) rfl (fun c14 => ?_) (fun c14 => ?_)
   ·replace c14 := of_decide_eq_true c14; rw [if_pos c14] at h
    refine sd_k fun J15 hJ15 => ?_
    obtain ⟨b16, h⟩ := of_guard h
    have g17 : (cs1)[o1 + a0_1.toNat * 1]? = some (.sc (.int .u8 (rd 0 l0_0 a0_1))) := hv1.get 0 0 b16.1 b16.2 (by decide)
    simp +decide only [reduceAdd, reduceMul, reduceToNat, ak, b16, g17]
    refine hJ15 _ ?_
    refine reg_k ?_
    simp +decide only [reduceAdd, reduceMul, reduceToNat, ak]
    obtain rfl := Option.some.inj h
    refine G12n _ _ (wk [1, 5] [pI (.arg 0) .box, pI (.arg 1) .fz]) (hJ11 _ rfl)
   ·replace c14 := of_decide_eq_false c14; rw [if_neg c14] at h
    obtain rfl := Option.some.inj h
    refine G12n _ _ (wk [1, 5] [pI (.arg 0) .box, pI (.arg 1) .fz]) (hJ11 _ rfl)
  ·replace h := hn; clear hn h10
   rintro _ rfl
   refine sr_k fun J18 hJ18 => ?_
   obtain ⟨b19, h⟩ := of_guard h
   simp +decide only [reduceAdd, reduceMul, reduceToNat, ak, b19]
   refine hJ18 _ ?_
   obtain rfl := Option.some.inj h
   refine hKr _ ⟨_, rfl, [], _, rfl, rfl, ?_⟩
   exact cl
/-! ### spec.l6DrawPaths: function 93 -/
def C93_l0 : AC := .seq (.sr [.m 13 5, .m 14 4, .o (.bin 15 .lss (.t 13) (.t 14)), .keep [0, 3, 4, 5, 15]] (.cond (.t 15) (.skip) (.gh (.exit 0)))) (.seq (.block 1 (.sr [.m 18 0, .call none (some 19) 92 [.tmp 18, .const (.int .i64 4)], .m 20 0, .call none (some 21) 92 [.tmp 20, .const (.int .i64 4)], .o (.build 22 [.int .i64 0, .int .i64 0, .int .i64 0] [(0, 1, .const (.int .i64 1)), (1, 1, .tmp 19), (2, 1, .tmp 21)]), .o (.alloc 6 [.int .i64 0, .int .i64 0, .int .i64 0]), .st 3 6 22, .keep [0, 3, 4, 5, 6]] (.seq (.ga (.sr [.m 23 0, .call none (some 24) 92 [.tmp 23, .const (.int .i64 4)], .o (.bin 25 .eql (.t 24) (.k 0)), .keep [0, 3, 4, 5, 6, 25]] (.cond (.t 25) (.reg [.fa 26 0 6, .o (.store 1 (.t 26) (.k 0)), .keep [0, 3, 4, 5, 6]]) (.skip)))) (.reg [.m 27 3, .o (.load 28 true 3 (.t 6)), .o (.bslice 29 3 [.int .i64 0, .int .i64 0, .int .i64 0] 1 [(0, .tmp 28)]), .o (.app 30 3 24 true (.t 27) (.t 29)), .m 3 30, .keep [0, 3, 4, 5]])))) (.reg [.m 16 5, .o (.bin 17 .add (.t 16) (.k 1)), .m 5 17, .keep [0, 3, 4, 5]]))
def C93_l1 : AC := .seq (.sr [.m 58 3, .ln 59 58, .o (.bin 60 .leq (.t 59) (.k 8)), .keep [3, 60]] (.cond (.t 60) (.skip) (.gh (.exit 2)))) (.block 3 (.reg [.m 61 3, .m 62 3, .o (.iaddr 63 3 (.t 62) (.k 0)), .o (.load 64 true 3 (.t 63)), .o (.bslice 65 3 [.int .i64 0, .int .i64 0, .int .i64 0] 1 [(0, .tmp 64)]), .o (.app 66 3 24 true (.t 61) (.t 65)), .m 3 66, .keep [3]]))
def C93 : AC := .sr [.o (.mv 2 (.const (.slice none 0 0))), .gh, .keep [0]] (.sr [.o (.bslice 9 3 [.int .i64 0, .int .i64 0, .int .i64 0] 0 []), .m 3 9, .keep [0, 3]] (.sr [.m 10 0, .call none (some 11) 92 [.tmp 10, .const (.int .i64 8)], .o (.bin 12 .add (.k 1) (.t 11)), .m 4 12, .keep [0, 3, 4]] (.seq (.sr [.o (.mv 5 (.k 0)), .keep [0, 3, 4, 5]] (.block 0 (.gh (.loop (.ga C93_l0))))) (.sr [.m 31 0, .call none (some 32) 92 [.tmp 31, .const (.int .i64 30)], .m 7 32, .keep [0, 3, 4, 7]] (.sr [.m 33 0, .m 34 4, .call none (some 35) 92 [.tmp 33, .tmp 34], .m 8 35, .keep [3, 7, 8]] (.seq (.ga (.sr [.m 36 7, .o (.bin 37 .eql (.t 36) (.k 0)), .keep [3, 7, 8, 37]] (.cond (.t 37) (.reg [.m 38 3, .m 39 8, .ia 40 3 38 39, .fa 41 0 40, .o (.store 1 (.t 41) (.k 2)), .keep [3]]) (.sr [.m 42 7, .o (.bin 43 .eql (.t 42) (.k 1)), .keep [3, 7, 8, 43]] (.cond (.t 43) (.reg [.m 44 3, .m 45 8, .ia 46 3 44 45, .fa 47 2 46, .o (.store 1 (.t 47) (.k 17)), .keep [3]]) (.sr [.m 48 7, .o (.bin 49 .eql (.t 48) (.k 2)), .keep [3, 7, 8, 49]] (.cond (.t 49) (.reg [.m 50 3, .m 51 8, .ia 52 3 50 51, .fa 53 1 52, .o (.store 1 (.t 53) (.const (.int .i64 (-1)))), .keep [3]]) (.sr [.m 54 7, .o (.bin 55 .eql (.t 54) (.k 3)), .keep [3, 7, 8, 55]] (.cond (.t 55) (.reg [.o (.mv 3 (.const (.slice none 0 0))), .gh, .keep [3]]) (.sr [.m 56 7, .o (.bin 57 .eql (.t 56) (.k 4)), .keep [3, 7, 8, 57]] (.cond (.t 57) (.block 2 (.gh (.loop (.ga C93_l1)))) (.sr [.m 67 7, .o (.bin 68 .eql (.t 67) (.k 5)), .keep [3, 8, 68]] (.cond (.t 68) (.sr [.m 69 3, .m 70 8, .ia 71 3 69 70, .fa 72 2 71, .o (.store 1 (.t 72) (.k 16)), .keep [3, 8]] (.reg [.m 73 3, .m 74 8, .ia 75 3 73 74, .fa 76 1 75, .o (.store 1 (.t 76) (.k 16)), .keep [3]])) (.skip)))))))))))))) (.sr [.m 77 3, .m 2 77, .keep [2]] (.ret))))))))
def r93 : List RV := [.tmp 2]
theorem k93 : compC Try.prog 78 C93 (Try.f93.body.getD .skip) = some C93.erase := by kernel_rfl
theorem q93 : rvsOf Try.prog Try.f93.results.toList = some r93 := by kernel_rfl
def spec_l6DrawPaths.l0 (l0_0 : List Int) (x0_0 : Int) (x0_1 : Int) (x0_2 : Int) (x0_3 : Int) (x0_4 : (List S86)) : Option (Int × Int × (List S86)) := (if x0_1 < x0_0 then (spec_l1Next.f l0_0 x0_2 x0_3 4 >>= fun t19 => (spec_l1Next.f l0_0 t19.2.1 t19.2.2 4 >>= fun t22 => ((spec_l1Next.f l0_0 t22.2.1 t22.2.2 4 >>= fun t30 => (if t30.1 = 0 then (some (t30.2.1, t30.2.2, 0)) else (some (t30.2.1, t30.2.2, 1)))) >>= fun (j25 : Int × Int × Int) => (if (x0_4.length + 1) * 24 ≤ 140737488355328 then (spec_l6DrawPaths.l0 l0_0 x0_0 (IntKind.i64.wrap (x0_1 + 1)) j25.1 j25.2.1 (x0_4 ++ ([(⟨j25.2.2, t19.1, t22.1⟩ : S86)] : List S86))) else none)))) else (some (x0_2, x0_3, x0_4)))
 partial_fixpoint
def spec_l6DrawPaths.l1 (x1_0 : Int) (x1_1 : Int) (x1_2 : (List S86)) : Option (List S86) := (if (x1_2.length : Int) ≤ 8 then (if (0 : Int) ≤ 0 ∧ 0 < (x1_2.length : Int) then (if (x1_2.length + 1) * 24 ≤ 140737488355328 then (spec_l6DrawPaths.l1 x1_0 x1_1 (x1_2 ++ ([(rd z86 x1_2 0)] : List S86))) else none) else none) else (some x1_2))
 partial_fixpoint
def spec_l6DrawPaths.f (l0_0 : List Int) (a0_1 : Int) (a0_2 : Int) : Option ((List S86) × Int × Int) := (spec_l1Next.f l0_0 a0_1 a0_2 8 >>= fun t7 => (spec_l6DrawPaths.l0 l0_0 (IntKind.i64.wrap (1 + t7.1)) 0 t7.2.1 t7.2.2 ([] : List S86) >>= fun (y43 : (Int × Int × (List S86))) => (spec_l1Next.f l0_0 y43.1 y43.2.1 30 >>= fun t46 => (spec_l1Next.f l0_0 t46.2.1 t46.2.2 (IntKind.i64.wrap (1 + t7.1)) >>= fun t50 => ((if t46.1 = 0 then (if 0 ≤ t50.1 ∧ t50.1 < (y43.2.2.length : Int) then (some (y43.2.2.set t50.1.toNat (⟨2, (rd z86 y43.2.2 t50.1).f1, (rd z86 y43.2.2 t50.1).f2⟩ : S86))) else none) else (if t46.1 = 1 then (if 0 ≤ t50.1 ∧ t50.1 < (y43.2.2.length : Int) then (some (y43.2.2.set t50.1.toNat (⟨(rd z86 y43.2.2 t50.1).f0, (rd z86 y43.2.2 t50.1).f1, 17⟩ : S86))) else none) else (if t46.1 = 2 then (if 0 ≤ t50.1 ∧ t50.1 < (y43.2.2.length : Int) then (some (y43.2.2.set t50.1.toNat (⟨(rd z86 y43.2.2 t50.1).f0, (-1), (rd z86 y43.2.2 t50.1).f2⟩ : S86))) else none) else (if t46.1 = 3 then (some ([] : List S86)) else (if t46.1 = 4 then (spec_l6DrawPaths.l1 t50.2.1 t50.2.2 y43.2.2 >>= fun (y102 : (List S86)) => (some y102)) else (if t46.1 = 5 then (if 0 ≤ t50.1 ∧ t50.1 < (y43.2.2.length : Int) then (some (y43.2.2.set t50.1.toNat (⟨(rd z86 y43.2.2 t50.1).f0, 16, 16⟩ : S86))) else none) else (some y43.2.2))))))) >>= fun (j53 : (List S86)) => (some (j53, t50.2.1, t50.2.2)))))))
def spec_l6DrawPaths.l0_M (cs1 : List Cell) (o1 : Nat) (l0_0 : List Int) (hv1 : Vw c_u8 1 cs1 o1 l0_0) (x0_0 : Int) (x0_1 : Int) (x0_2 : Int) (x0_3 : Int) (x0_4 : (List S86)) (y : (Int × Int × (List S86))) : Prop := ∀ (K : AE → St → Prop), (K (.exit 0) ⟨[(0, .c (.ptr (.arg 0) [] 0)), (3, .c (.ref (.tmp 9 0) [] 0 y.2.2.length)), (4, .c (.sc (.int .i64 x0_0)))], [(.arg 0, ⟨.box, 0, [.ref (.arg 1) [] o1 l0_0.length, .sc (.int .i64 y.1), .sc (.int .u64 y.2.1)]⟩), (.arg 1, ⟨.fz, 1, cs1⟩), (.tmp 9 0, ⟨.lst, 3, encL c86 y.2.2⟩)], [], []⟩) → loopS Try.prog 78 (.ga C93_l0) K ⟨[(0, .c (.ptr (.arg 0) [] 0)), (3, .c (.ref (.tmp 9 0) [] 0 x0_4.length)), (4, .c (.sc (.int .i64 x0_0))), (5, .c (.sc (.int .i64 x0_1)))], [(.arg 0, ⟨.box, 0, [.ref (.arg 1) [] o1 l0_0.length, .sc (.int .i64 x0_2), .sc (.int .u64 x0_3)]⟩), (.arg 1, ⟨.fz, 1, cs1⟩), (.tmp 9 0, ⟨.lst, 3, encL c86 x0_4⟩)], [], []⟩
theorem spec_l6DrawPaths.l0_walk (cs1 : List Cell) (o1 : Nat) (l0_0 : List Int) (hv1 : Vw c_u8 1 cs1 o1 l0_0) (x0_0 : Int) (x0_1 : Int) (x0_2 : Int) (x0_3 : Int) (x0_4 : (List S86)) (y : (Int × Int × (List S86))) (h : spec_l6DrawPaths.l0 l0_0 x0_0 x0_1 x0_2 x0_3 x0_4 = some y) : spec_l6DrawPaths.l0_M cs1 o1 l0_0 hv1 x0_0 x0_1 x0_2 x0_3 x0_4 y := by
 refine spec_l6DrawPaths.l0.partial_correctness l0_0 x0_0 (motive := fun x0_1 x0_2 x0_3 x0_4 y => spec_l6DrawPaths.l0_M cs1 o1 l0_0 hv1 x0_0 x0_1 x0_2 x0_3 x0_4 y) ?_ x0_1 x0_2 x0_3 x0_4 y h
 clear h
 unfold spec_l6DrawPaths.l0_M
 intro rec ih x0_1 x0_2 x0_3 x0_4 y h K hx0
 refine loop_unroll (ga_k fun G0 G0n G0r G0x => ?_)
 unfold C93_l0
 refine seq_k fun J13 hJ13 => ?_
 refine sr_k fun J14 hJ14 => ?_
 simp +decide only [reduceAdd, reduceMul, reduceToNat, ak]
 refine hJ14 _ ?_
 refine cond_k (b := decide (x0_1 < x0_0)) rfl (fun c15 => ?_) (fun c15 => ?_)
 ·replace c15 := of_decide_eq_true c15; rw [if_pos c15] at h
  refine hJ13 _ ?_
  refine seq_k fun J16 hJ16 => ?_
  refine block_k fun B17 B17n B17x B17r B17j => ?_
  refine sr_k fun J18 hJ18 => ?_
  simp +decide only [reduceAdd, reduceMul, reduceToNat, ak]
  obtain ⟨t19, h20, h⟩ := of_bind h
  refine cm [pI (.arg 0) .box, pI (.arg 1) .fz] (spec_l1Next.tri (cs1) o1 l0_0 hv1 x0_2 x0_3 4 _ h20) (fun hl20 => ?_)
  refine cs (mW [.ref (.arg 1) [] o1 l0_0.length, .sc (.int .i64 t19.2.1), .sc (.int .u64 t19.2.2)] (mF (mN ..))) ?_ (s4 := [(.arg 0, ⟨.box, 0, [.ref (.arg 1) [] o1 l0_0.length, .sc (.int .i64 t19.2.1), .sc (.int .u64 t19.2.2)]⟩), (.arg 1, ⟨.fz, 1, cs1⟩), (.tmp 9 0, ⟨.lst, 3, encL c86 x0_4⟩)])
  simp +decide only [reduceAdd, reduceMul, reduceToNat, ak]
  obtain ⟨t22, h23, h⟩ := of_bind h
  refine cm [pI (.arg 0) .box, pI (.arg 1) .fz] (spec_l1Next.tri (cs1) o1 l0_0 hv1 t19.2.1 t19.2.2 4 _ h23) (fun hl23 => ?_)
  refine cs (mW [.ref (.arg 1) [] o1 l0_0.length, .sc (.int .i64 t22.2.1), .sc (.int .u64 t22.2.2)] (mF (mN ..))) ?_ (s4 := [(.arg 0, ⟨.box, 0, [.ref (.arg 1) [] o1 l0_0.length, .sc (.int .i64 t22.2.1), .sc (.int .u64 t22.2.2)]⟩), (.arg 1, ⟨.fz, 1, cs1⟩), (.tmp 9 0, ⟨.lst, 3, encL c86 x0_4⟩)])
  simp +decide only [reduceAdd, reduceMul, reduceToNat, ak]
  refine hJ18 _ ?_
  obtain ⟨j25, h26, hn⟩ := of_bind h
  refine seq_j (fun st => st = ⟨[(0, .c (.ptr (.arg 0) [] 0)), (3, .c (.ref (.tmp 9 0) [] 0 x0_4.length)), (4, .c (.sc (.int .i64 x0_0))), (5, .c (.sc (.int .i64 x0_1))), (6, .c (.ptr (.tmp 6 0) [] 0))], [(.arg 0, ⟨.box, 0, [.ref (.arg 1) [] o1 l0_0.length, .sc (.int .i64 j25.1), .sc (.int .u64 j25.2.1)]⟩), (.arg 1, ⟨.fz, 1, cs1⟩), (.tmp 9 0, ⟨.lst, 3, encL c86 x0_4⟩), (.tmp 6 0, ⟨.box, 0, [.sc (.int .i64 j25.2.2), .sc (.int .i64 t19.1), .sc (.int .i64 t22.1)]⟩)], [], []⟩) (fun J27 hJ27 => ?_) ?_
  ·replace h := h26; clear hn
   refine ga_k fun G28 G28n G28r G28x => ?_
   refine sr_k fun J29 hJ29 => ?_
   simp +decide only [reduceAdd, reduceMul, reduceToNat, ak]
   obtain ⟨t30, h31, h⟩ := of_bind h
   refine cm [pI (.arg 0) .box, pI (.arg 1) .fz] (spec_l1Next.tri (cs1) o1 l0_0 hv1 t22.2.1 t22.2.2 4 _ h31) (fun hl31 => ?_)
   refine cs (mW [.ref (.arg 1) [] o1 l0_0.length, .sc (.int .i64 t30.2.1), .sc (.int .u64 t30.2.2)] (mF (mN ..))) ?_ (s4 := [(.arg 0, ⟨.box, 0, [.ref (.arg 1) [] o1 l0_0.length, .sc (.int .i64 t30.2.1), .sc (.int .u64 t30.2.2)]⟩), (.arg 1, ⟨.fz, 1, cs1⟩), (.tmp 9 0, ⟨.lst, 3, encL c86 x0_4⟩), (.tmp 6 0, ⟨.box, 0, [.sc (.int .i64 1), .sc (.int .i64 t19.1), .sc (.int .i64 t22.1)]⟩)])
   simp +decide only [reduceAdd, reduceMul, reduceToNat, ak]
   refine hJ29 _ ?_
   refine cond_k (b := decide (t30.1 = 0)) rfl (fun c33 => ?_) (fun c33 => ?_)
   ·replace c33 := of_decide_eq_true c33; rw [if_pos c33] at h
    refine reg_k ?_
    simp +decide only [reduceAdd, reduceMul, reduceToNat, ak]
    obtain rfl := Option.some.inj h
    refine G28n _ _ (wk [0, 3, 4, 5, 6] [pI (.arg 0) .box, pI (.arg 1) .fz, pI (.tmp 9 0) .lst, pI (.tmp 6 0) .box]) (hJ27 _ rfl)
   ·replace c33 := of_decide_eq_false c33; rw [if_neg c33] at h
    obtain rfl := Option.some.inj h
    refine G28n _ _ (wk [0, 3, 4, 5, 6] [pI (.arg 0) .box, pI (.arg 1) .fz, pI (.tmp 9 0) .lst, pI (.tmp 6 0) .box]) (hJ27 _ rfl)
  ·replace h := hn; clear hn h26
   rintro _ rfl
   refine reg_k ?_
   have g34 : (List.replicate 1 ([.int .i64 0, .int .i64 0, .int .i64 0] : List Value)).flatten = [.int .i64 0, .int .i64 0, .int .i64 0] := rfl
   have g35 : (⟨.lst, 3, [.sc (.int .i64 j25.2.2), .sc (.int .i64 t19.1), .sc (.int .i64 t22.1)]⟩ : Root) = ⟨.lst, 3, encL c86 ([(⟨j25.2.2, t19.1, t22.1⟩ : S86)] : List S86)⟩ := rfl
   have g36 : ([(⟨j25.2.2, t19.1, t22.1⟩ : S86)] : List S86).length = 1 := rfl
   have g37 : (encL c86 ([(⟨j25.2.2, t19.1, t22.1⟩ : S86)] : List S86)).length = 1 * 3 := by simp [encL_length c86_w]
   have g38 : (encL c86 ([(⟨j25.2.2, t19.1, t22.1⟩ : S86)] : List S86)).all nd = true := rfl
   obtain ⟨b39, h⟩ := of_guard h
   have g40 : appLim x0_4.length 1 24 := ⟨b39, by have := b39; omega⟩
   have g41 : (encL c86 x0_4).length = x0_4.length * 3 := by simp [encL_length c86_w]
   have g42 : encL c86 x0_4 ++ encL c86 ([(⟨j25.2.2, t19.1, t22.1⟩ : S86)] : List S86) = encL c86 (x0_4 ++ ([(⟨j25.2.2, t19.1, t22.1⟩ : S86)] : List S86)) := (encL_append _ _).symm
   simp +decide only [reduceAdd, reduceMul, reduceToNat, ak, g34, g35, g36, g37, g38, g40, g41, g42]
   refine B17n _ ?_
   refine hJ16 _ ?_
   refine reg_k ?_
   simp +decide only [reduceAdd, reduceMul, reduceToNat, ak]
   refine G0n _ _ (wj [0, 3, 4, 5] [pI (.arg 0) .box, pI (.arg 1) .fz, pI (.tmp 9 0) .lst]) (ih _ _ _ _ _ h K hx0)
 ·replace c15 := of_decide_eq_false c15; rw [if_neg c15] at h
  obtain rfl := Option.some.inj h
  refine gh_k (wk [0, 3, 4] [pI (.arg 0) .box, pI (.arg 1) .fz, pI (.tmp 9 0) .lst]) ?_
  refine G0x _ _ ?_
  exact hx0
def spec_l6DrawPaths.l1_M (cs1 : List Cell) (o1 : Nat) (l0_0 : List Int) (hv1 : Vw c_u8 1 cs1 o1 l0_0) (x1_0 : Int) (x1_1 : Int) (x1_2 : (List S86)) (y : (List S86)) : Prop := ∀ (K : AE → St → Prop), (K (.exit 2) ⟨[(3, .c (.ref (.tmp 9 0) [] 0 y.length))], [(.arg 0, ⟨.box, 0, [.ref (.arg 1) [] o1 l0_0.length, .sc (.int .i64 x1_0), .sc (.int .u64 x1_1)]⟩), (.arg 1, ⟨.fz, 1, cs1⟩), (.tmp 9 0, ⟨.lst, 3, encL c86 y⟩)], [], []⟩) → loopS Try.prog 78 (.ga C93_l1) K ⟨[(3, .c (.ref (.tmp 9 0) [] 0 x1_2.length))], [(.arg 0, ⟨.box, 0, [.ref (.arg 1) [] o1 l0_0.length, .sc (.int .i64 x1_0), .sc (.int .u64 x1_1)]⟩), (.arg 1, ⟨.fz, 1, cs1⟩), (.tmp 9 0, ⟨.lst, 3, encL c86 x1_2⟩)], [], []⟩
theorem spec_l6DrawPaths.l1_walk (cs1 : List Cell) (o1 : Nat) (l0_0 : List Int) (hv1 : Vw c_u8 1 cs1 o1 l0_0) (x1_0 : Int) (x1_1 : Int) (x1_2 : (List S86)) (y : (List S86)) (h : spec_l6DrawPaths.l1 x1_0 x1_1 x1_2 = some y) : spec_l6DrawPaths.l1_M cs1 o1 l0_0 hv1 x1_0 x1_1 x1_2 y := by
 refine spec_l6DrawPaths.l1.partial_correctness x1_0 x1_1 (motive := fun x1_2 y => spec_l6DrawPaths.l1_M cs1 o1 l0_0 hv1 x1_0 x1_1 x1_2 y) ?_ x1_2 y h
 clear h
 unfold spec_l6DrawPaths.l1_M
 intro rec ih x1_2 y h K hx0
 refine loop_unroll (ga_k fun G1 G1n G1r G1x => ?_)
 unfold C93_l1
 refine seq_k fun J86 hJ86 => ?_
 refine sr_k fun J87 hJ87 => ?_
 simp +decide only [reduceAdd, reduceMul, reduceToNat, ak]
 refine hJ87 _ ?_
 refine cond_k (b := decide ((x1_2.length : Int) ≤ 8)) rfl (fun c88 => ?_) (fun c88 => ?_)
 ·replace c88 := of_decide_eq_true c88; rw [if_pos c88] at h
  refine hJ86 _ ?_
  refine block_k fun B89 B89n B89x B89r B89j => ?_
  refine reg_k ?_
  obtain ⟨b90, h⟩ := of_guard h
  have g91 : (List.drop 0 (encL c86 x1_2)).take 3 = [.sc (.int .i64 ((rd z86 x1_2 0).f0)), .sc (.int .i64 ((rd z86 x1_2 0).f1)), .sc (.int .i64 ((rd z86 x1_2 0).f2))] := by have := (Vw.whole c86_w x1_2).stretch z86 b90.1 b90.2; first | exact this | simpa using this
  have g92 : (encL c86 x1_2).take 3 = [.sc (.int .i64 ((rd z86 x1_2 0).f0)), .sc (.int .i64 ((rd z86 x1_2 0).f1)), .sc (.int .i64 ((rd z86 x1_2 0).f2))] := by have := (Vw.whole c86_w x1_2).stretch z86 b90.1 b90.2; first | exact this | simpa using this
  have g93 : (List.replicate 1 ([.int .i64 0, .int .i64 0, .int .i64 0] : List Value)).flatten = [.int .i64 0, .int .i64 0, .int .i64 0] := rfl
  have g94 : (⟨.lst, 3, [.sc (.int .i64 ((rd z86 x1_2 0).f0)), .sc (.int .i64 ((rd z86 x1_2 0).f1)), .sc (.int .i64 ((rd z86 x1_2 0).f2))]⟩ : Root) = ⟨.lst, 3, encL c86 ([(rd z86 x1_2 0)] : List S86)⟩ := rfl
  have g95 : ([(rd z86 x1_2 0)] : List S86).length = 1 := rfl
  have g96 : (encL c86 ([(rd z86 x1_2 0)] : List S86)).length = 1 * 3 := by simp [encL_length c86_w]
  have g97 : (encL c86 ([(rd z86 x1_2 0)] : List S86)).all nd = true := rfl
  obtain ⟨b98, h⟩ := of_guard h
  have g99 : appLim x1_2.length 1 24 := ⟨b98, by have := b98; omega⟩
  have g100 : (encL c86 x1_2).length = x1_2.length * 3 := by simp [encL_length c86_w]
  have g101 : encL c86 x1_2 ++ encL c86 ([(rd z86 x1_2 0)] : List S86) = encL c86 (x1_2 ++ ([(rd z86 x1_2 0)] : List S86)) := (encL_append _ _).symm
  simp +decide only [reduceAdd, reduceMul, reduceToNat, ak, b90, g91, g92, g93, g94, g95, g96, g97, g99, g100, g101]
  refine B89n _ ?_
  refine G1n _ _ (wj [3] [pI (.arg 0) .box, pI (.arg 1) .fz, pI (.tmp 9 0) .lst]) (ih _ _ h K hx0)
 ·replace c88 := of_decide_eq_false c88; rw [if_neg c88] at h
  obtain rfl := Option.some.inj h
  refine gh_k (wk [3] [pI (.arg 0) .box, pI (.arg 1) .fz, pI (.tmp 9 0) .lst]) ?_
  refine G1x _ _ ?_
  exact hx0
theorem spec_l6DrawPaths.tri (cs1 : List Cell) (o1 : Nat) (l0_0 : List Int) (hv1 : Vw c_u8 1 cs1 o1 l0_0) (a0_1 : Int) (a0_2 : Int) (r : (List S86) × Int × Int) (h : spec_l6DrawPaths.f l0_0 a0_1 a0_2 = some r) : Tri Try.prog 93 [.c (.ptr (.arg 0) [] 0)] [(.arg 0, ⟨.box, 0, [.ref (.arg 1) [] o1 l0_0.length, .sc (.int .i64 a0_1), .sc (.int .u64 a0_2)]⟩), (.arg 1, ⟨.fz, 1, cs1⟩)] (fun o => o = ⟨.c (.ref (.res 0) [] 0 r.1.length), [(.arg 0, ⟨.box, 0, [.ref (.arg 1) [] o1 l0_0.length, .sc (.int .i64 r.2.1), .sc (.int .u64 r.2.2)]⟩), (.arg 1, ⟨.fz, 1, cs1⟩), (.res 0, ⟨.lst, 3, encL c86 r.1⟩)], [], []⟩) := by
 refine tri_of_body (ac := C93) (xs := r93) Try.func93 (show Try.f93.body = some (Try.f93.body.getD .skip) from rfl) k93 q93 (Nat.le_of_ble_eq_true rfl) ?_
 refine body_of fun K hKn hKr => ?_
 unfold spec_l6DrawPaths.f at h
 unfold C93
 simp only [initT, Nat.reduceAdd]
 refine sr_k fun J1 hJ1 => ?_
 simp +decide only [reduceAdd, reduceMul, reduceToNat, ak]
 refine gho_k (Weak.nm' 2 (.tmp 2 20) 3 (encL c86 ([] : List S86)) rfl rfl rfl) ?_
 simp +decide only [reduceAdd, reduceMul, reduceToNat, ak]
 refine hJ1 _ ?_
 refine sr_k fun J2 hJ2 => ?_
 have g3 : (List.replicate 0 ([.int .i64 0, .int .i64 0, .int .i64 0] : List Value)).flatten = [] := rfl
 have g4 : (⟨.lst, 3, []⟩ : Root) = ⟨.lst, 3, encL c86 ([] : List S86)⟩ := rfl
 have g5 : ([] : List S86).length = 0 := rfl
 simp +decide only [reduceAdd, reduceMul, reduceToNat, ak, g3, g4, g5]
 refine hJ2 _ ?_
 refine sr_k fun J6 hJ6 => ?_
 simp +decide only [reduceAdd, reduceMul, reduceToNat, ak]
 obtain ⟨t7, h8, h⟩ := of_bind h
 refine cm [pI (.arg 0) .box, pI (.arg 1) .fz] (spec_l1Next.tri (cs1) o1 l0_0 hv1 a0_1 a0_2 8 _ h8) (fun hl8 => ?_)
 refine cs (mW [.ref (.arg 1) [] o1 l0_0.length, .sc (.int .i64 t7.2.1), .sc (.int .u64 t7.2.2)] (mF (mN ..))) ?_ (s4 := [(.arg 0, ⟨.box, 0, [.ref (.arg 1) [] o1 l0_0.length, .sc (.int .i64 t7.2.1), .sc (.int .u64 t7.2.2)]⟩), (.arg 1, ⟨.fz, 1, cs1⟩), (.tmp 2 20, ⟨.lst, 3, encL c86 ([] : List S86)⟩), (.tmp 9 0, ⟨.lst, 3, encL c86 ([] : List S86)⟩)])
 simp +decide only [reduceAdd, reduceMul, reduceToNat, ak]
 refine hJ6 _ ?_
 refine seq_k fun J10 hJ10 => ?_
 refine sr_k fun J11 hJ11 => ?_
 simp +decide only [reduceAdd, reduceMul, reduceToNat, ak]
 refine hJ11 _ ?_
 refine block_k fun B12 B12n B12x B12r B12j => ?_
 obtain ⟨y43, h44, h⟩ := of_bind h
 refine gh_k (st' := ⟨[(0, .c (.ptr (.arg 0) [] 0)), (3, .c (.ref (.tmp 9 0) [] 0 (([] : List S86).length))), (4, .c (.sc (.int .i64 (IntKind.i64.wrap (1 + t7.1))))), (5, .c (.sc (.int .i64 0)))], [(.arg 0, ⟨.box, 0, [.ref (.arg 1) [] o1 l0_0.length, .sc (.int .i64 t7.2.1), .sc (.int .u64 t7.2.2)]⟩), (.arg 1, ⟨.fz, 1, cs1⟩), (.tmp 9 0, ⟨.lst, 3, encL c86 ([] : List S86)⟩)], [], []⟩) (wk [0, 3, 4, 5] [pI (.arg 0) .box, pI (.arg 1) .fz, pI (.tmp 9 0) .lst] (h := by first | rfl | (simp +decide only [ak, akF]; done) | (simp +decide [ak, akF] <;> omega))) ?_
 rw [e_loop]
 refine spec_l6DrawPaths.l0_walk cs1 o1 l0_0 hv1 (IntKind.i64.wrap (1 + t7.1)) 0 t7.2.1 t7.2.2 ([] : List S86) _ h44 _ ?_
 refine B12x _ ?_
 refine hJ10 _ ?_
 refine sr_k fun J45 hJ45 => ?_
 simp +decide only [reduceAdd, reduceMul, reduceToNat, ak]
 obtain ⟨t46, h47, h⟩ := of_bind h
 refine cm [pI (.arg 0) .box, pI (.arg 1) .fz] (spec_l1Next.tri (cs1) o1 l0_0 hv1 y43.1 y43.2.1 30 _ h47) (fun hl47 => ?_)
 refine cs (mW [.ref (.arg 1) [] o1 l0_0.length, .sc (.int .i64 t46.2.1), .sc (.int .u64 t46.2.2)] (mF (mN ..))) ?_ (s4 := [(.arg 0, ⟨.box, 0, [.ref (.arg 1) [] o1 l0_0.length, .sc (.int .i64 t46.2.1), .sc (.int .u64 t46.2.2)]⟩), (.arg 1, ⟨.fz, 1, cs1⟩), (.tmp 9 0, ⟨.lst, 3, encL c86 y43.2.2⟩)])
 simp +decide only [reduceAdd, reduceMul, reduceToNat, ak]
 refine hJ45 _ ?_
 refine sr_k fun J49 hJ49 => ?_
 simp +decide only [reduceAdd, reduceMul, reduceToNat, ak]
 obtain ⟨t50, h51, h⟩ := of_bind h
 refine cm [pI (.arg 0) .box, pI (.arg 1) .fz] (spec_l1Next.tri (cs1) o1 l0_0 hv1 t46.2.1 t46.2.2 (IntKind.i64.wrap (1 + t7.1)) _ h51) (fun hl51 => ?_)
 refine cs (mW [.ref (.arg 1) [] o1 l0_0.length, .sc (.int .i64 t50.2.1), .sc (.int .u64 t50.2.2)] (mF (mN ..))) ?_ (s4 := [(.arg 0, ⟨.box, 0, [.ref (.arg 1) [] o1 l0_0.length, .sc (.int .i64 t50.2.1), .sc (.int .u64 t50.2.2)]⟩), (.arg 1, ⟨.fz, 1, cs1⟩), (.tmp 9 0, ⟨.lst, 3, encL c86 y43.2.2⟩)])
 simp +decide only [reduceAdd, reduceMul, reduceToNat, ak]
 refine hJ49 _ ?_
 obtain ⟨j53, h54, hn⟩ := of_bind h
 refine seq_j (fun st => st = ⟨[(3, .c (.ref (.tmp 9 0) [] 0 j53.length))], [(.arg 0, ⟨.box, 0, [.ref (.arg 1) [] o1 l0_0.length, .sc (.int .i64 t50.2.1), .sc (.int .u64 t50.2.2)]⟩), (.arg 1, ⟨.fz, 1, cs1⟩), (.tmp 9 0, ⟨.lst, 3, encL c86 j53⟩)], [], []⟩) (fun J55 hJ55 => ?_) ?_
 ·replace h := h54; clear hn
  refine ga_k fun G56 G56n G56r G56x => ?_
  refine sr_k fun J57 hJ57 => ?_
  simp +decide only [reduceAdd, reduceMul, reduceToNat, ak]
  refine hJ57 _ ?_
  refine cond_k (b := decide (t46.1 = 0)) rfl (fun c58 => ?_) (fun c58 => ?_)
  ·replace c58 := of_decide_eq_true c58; rw [if_pos c58] at h
   refine reg_k ?_
   obtain ⟨b59, h⟩ := of_guard h
   have g60 : 0 + t50.1.toNat * 3 + 0 ≤ (encL c86 y43.2.2).length := ((Vw.whole c86_w y43.2.2).len_le b59.1 b59.2 (by decide))
   have g61 : 0 + t50.1.toNat * 3 + 0 + 1 ≤ (encL c86 y43.2.2).length := (Vw.whole c86_w y43.2.2).le b59.1 b59.2 (j := 0) (q := 1) (by decide)
   have g62 : 0 + t50.1.toNat * 3 + 0 < (encL c86 y43.2.2).length := (Vw.whole c86_w y43.2.2).lt b59.1 b59.2 (j := 0) (by decide)
   have g63 : (encL c86 y43.2.2)[0 + t50.1.toNat * 3 + 0]? = some (.sc (.int .i64 ((rd z86 y43.2.2 t50.1).f0))) := (Vw.whole c86_w y43.2.2).get z86 0 b59.1 b59.2 (by decide)
   have g64 : (encL c86 y43.2.2).set (0 + t50.1.toNat * 3 + 0) (.sc (.int .i64 2)) = encL c86 (y43.2.2.set t50.1.toNat (⟨2, (rd z86 y43.2.2 t50.1).f1, (rd z86 y43.2.2 t50.1).f2⟩ : S86)) := encL_put c86_w z86 b59.1 b59.2 (j := 0) (by decide) rfl
   simp +decide only [reduceAdd, reduceMul, reduceToNat, ak, b59, g60, g61, g62, g63, g64]
   obtain rfl := Option.some.inj h
   refine G56n _ _ (wj [3] [pI (.arg 0) .box, pI (.arg 1) .fz, pI (.tmp 9 0) .lst]) (hJ55 _ rfl)
  ·replace c58 := of_decide_eq_false c58; rw [if_neg c58] at h
   refine sr_k fun J65 hJ65 => ?_
   simp +decide only [reduceAdd, reduceMul, reduceToNat, ak]
   refine hJ65 _ ?_
   refine cond_k (b := decide (t46.1 = 1)) rfl (fun c66 => ?_) (fun c66 => ?_)
   ·replace c66 := of_decide_eq_true c66; rw [if_pos c66] at h
    refine reg_k ?_
    obtain ⟨b67, h⟩ := of_guard h
    have g68 : 0 + t50.1.toNat * 3 + 2 ≤ (encL c86 y43.2.2).length := ((Vw.whole c86_w y43.2.2).len_le b67.1 b67.2 (by decide))
    have g69 : 0 + t50.1.toNat * 3 + 2 + 1 ≤ (encL c86 y43.2.2).length := (Vw.whole c86_w y43.2.2).le b67.1 b67.2 (j := 2) (q := 1) (by decide)
    have g70 : 0 + t50.1.toNat * 3 + 2 < (encL c86 y43.2.2).length := (Vw.whole c86_w y43.2.2).lt b67.1 b67.2 (j := 2) (by decide)
    have g71 : (encL c86 y43.2.2)[0 + t50.1.toNat * 3 + 2]? = some (.sc (.int .i64 ((rd z86 y43.2.2 t50.1).f2))) := (Vw.whole c86_w y43.2.2).get z86 2 b67.1 b67.2 (by decide)
    have g72 : (encL c86 y43.2.2).set (0 + t50.1.toNat * 3 + 2) (.sc (.int .i64 17)) = encL c86 (y43.2.2.set t50.1.toNat (⟨(rd z86 y43.2.2 t50.1).f0, (rd z86 y43.2.2 t50.1).f1, 17⟩ : S86)) := encL_put c86_w z86 b67.1 b67.2 (j := 2) (by decide) rfl
    simp +decide only [reduceAdd, reduceMul, reduceToNat, ak, b67, g68, g69, g70, g71, g72]
    obtain rfl := Option.some.inj h
    refine G56n _ _ (wj [3] [pI (.arg 0) .box, pI (.arg 1) .fz, pI (.tmp 9 0) .lst]) (hJ55 _ rfl)
   ·replace c66 := of_decide_eq_false c66; rw [if_neg c66] at h
    refine sr_k fun J73 hJ73 => ?_
    simp +decide only [reduceAdd, reduceMul, reduceToNat, ak]
    refine hJ73 _ ?_
    refine cond_k (b := decide (t46.1 = 2)) rfl (fun c74 => ?_) (fun c74 => ?_)
    ·replace c74 := of_decide_eq_true c74; rw [if_pos c74] at h
     refine reg_k ?_
     obtain ⟨b75, h⟩ := of_guard h
     have g76 : 0 + t50.1.toNat * 3 + 1 ≤ (encL c86 y43.2.2).length := ((Vw.whole c86_w y43.2.2).len_le b75.1 b75.2 (by decide))
     have g77 : 0 + t50.1.toNat * 3 + 1 + 1 ≤ (encL c86 y43.2.2).length := (Vw.whole c86_w y43.2.2).le b75.1 b75.2 (j := 1) (q := 1) (by decide)
     have g78 : 0 + t50.1.toNat * 3 + 1 < (encL c86 y43.2.2).length := (Vw.whole c86_w y43.2.2).lt b75.1 b75.2 (j := 1) (by decide)
     have g79 : (encL c86 y43.2.2)[0 + t50.1.toNat * 3 + 1]? = some (.sc (.int .i64 ((rd z86 y43.2.2 t50.1).f1))) := (Vw.whole c86_w y43.2.2).get z86 1 b75.1 b75.2 (by decide)
     have g80 : (encL c86 y43.2.2).set (0 + t50.1.toNat * 3 + 1) (.sc (.int .i64 (-1))) = encL c86 (y43.2.2.set t50.1.toNat (⟨(rd z86 y43.2.2 t50.1).f0, (-1), (rd z86 y43.2.2 t50.1).f2⟩ : S86)) := encL_put c86_w z86 b75.1 b75.2 (j := 1) (by decide) rfl
     simp +decide only [reduceAdd, reduceMul, reduceToNat, ak, b75, g76, g77, g78, g79, g80]
     obtain rfl := Option.some.inj h
     refine G56n _ _ (wj [3] [pI (.arg 0) .box, pI (.arg 1) .fz, pI (.tmp 9 0) .lst]) (hJ55 _ rfl)
    ·replace c74 := of_decide_eq_false c74; rw [if_neg c74] at h
     refine sr_k fun J81 hJ81 => ?_
     simp +decide only [reduceAdd, reduceMul, reduceToNat, ak]
     refine hJ81 _ ?_
     refine cond_k (b := decide (t46.1 = 3)) rfl (fun c82 => ?_) (fun c82 => ?_)
     ·replace c82 := of_decide_eq_true c82; rw [if_pos c82] at h
      refine reg_k ?_
      simp +decide only [reduceAdd, reduceMul, reduceToNat, ak]
      refine gho_k (Weak.nm' 3 (.tmp 3 20) 3 (encL c86 ([] : List S86)) rfl rfl rfl) ?_
      simp +decide only [reduceAdd, reduceMul, reduceToNat, ak]
      obtain rfl := Option.some.inj h
      refine G56n _ _ (wj [3] [pI (.arg 0) .box, pI (.arg 1) .fz, pN (.tmp 9 0) (.tmp 3 20) .lst]) (hJ55 _ rfl)
     ·replace c82 := of_decide_eq_false c82; rw [if_neg c82] at h
      refine sr_k fun J83 hJ83 => ?_
      simp +decide only [reduceAdd, reduceMul, reduceToNat, ak]
      refine hJ83 _ ?_
      refine cond_k (b := decide (t46.1 = 4)) rfl (fun c84 => ?_) (fun c84 => ?_)
      ·replace c84 := of_decide_eq_true c84; rw [if_pos c84] at h
       refine block_k fun B85 B85n B85x B85r B85j => ?_
       obtain ⟨y102, h103, h⟩ := of_bind h
       refine gh_k (wk [3] [pI (.arg 0) .box, pI (.arg 1) .fz, pI (.tmp 9 0) .lst]) ?_
       rw [e_loop]
       refine spec_l6DrawPaths.l1_walk cs1 o1 l0_0 hv1 t50.2.1 t50.2.2 y43.2.2 _ h103 _ ?_
       refine B85x _ ?_
       obtain rfl := Option.some.inj h
       refine G56n _ _ (wk [3] [pI (.arg 0) .box, pI (.arg 1) .fz, pI (.tmp 9 0) .lst]) (hJ55 _ rfl)
      ·replace c84 := of_decide_eq_false c84; rw [if_neg c84] at h
       refine sr_k fun J104 hJ104 => ?_
       simp +decide only [reduceAdd, reduceMul, reduceToNat, ak]
       refine hJ104 _ ?_
       refine cond_k (b := decide (t46.1 = 5)) rfl (fun c105 => ?_) (fun c105 => ?_)
       ·replace c105 := of_decide_eq_true c105; rw [if_pos c105] at h
        refine sr_k fun J106 hJ106 => ?_
        obtain ⟨b107, h⟩ := of_guard h
        have g108 : 0 + t50.1.toNat * 3 + 2 ≤ (encL c86 y43.2.2).length := ((Vw.whole c86_w y43.2.2).len_le b107.1 b107.2 (by decide))
        have g109 : 0 + t50.1.toNat * 3 + 2 + 1 ≤ (encL c86 y43.2.2).length := (Vw.whole c86_w y43.2.2).le b107.1 b107.2 (j := 2) (q := 1) (by decide)
        have g110 : 0 + t50.1.toNat * 3 + 2 < (encL c86 y43.2.2).length := (Vw.whole c86_w y43.2.2).lt b107.1 b107.2 (j := 2) (by decide)
        have g111 : (encL c86 y43.2.2)[0 + t50.1.toNat * 3 + 2]? = some (.sc (.int .i64 ((rd z86 y43.2.2 t50.1).f2))) := (Vw.whole c86_w y43.2.2).get z86 2 b107.1 b107.2 (by decide)
        have g112 : (encL c86 y43.2.2).set (0 + t50.1.toNat * 3 + 2) (.sc (.int .i64 16)) = encL c86 (y43.2.2.set t50.1.toNat (⟨(rd z86 y43.2.2 t50.1).f0, (rd z86 y43.2.2 t50.1).f1, 16⟩ : S86)) := encL_put c86_w z86 b107.1 b107.2 (j := 2) (by decide) rfl
        simp +decide only [reduceAdd, reduceMul, reduceToNat, ak, b107, g108, g109, g110, g111, g112]
        refine hJ106 _ ?_
        refine reg_k ?_
        have g113 : 0 + t50.1.toNat * 3 + 1 ≤ (encL c86 (y43.2.2.set t50.1.toNat (⟨(rd z86 y43.2.2 t50.1).f0, (rd z86 y43.2.2 t50.1).f1, 16⟩ : S86))).length := ((Vw.whole c86_w (y43.2.2.set t50.1.toNat (⟨(rd z86 y43.2.2 t50.1).f0, (rd z86 y43.2.2 t50.1).f1, 16⟩ : S86))).len_le b107.1 (lt_len b107.2 (by simp)) (by decide))
        have g114 : 0 + t50.1.toNat * 3 + 1 + 1 ≤ (encL c86 (y43.2.2.set t50.1.toNat (⟨(rd z86 y43.2.2 t50.1).f0, (rd z86 y43.2.2 t50.1).f1, 16⟩ : S86))).length := (Vw.whole c86_w (y43.2.2.set t50.1.toNat (⟨(rd z86 y43.2.2 t50.1).f0, (rd z86 y43.2.2 t50.1).f1, 16⟩ : S86))).le b107.1 (lt_len b107.2 (by simp)) (j := 1) (q := 1) (by decide)
        have g115 : 0 + t50.1.toNat * 3 + 1 < (encL c86 (y43.2.2.set t50.1.toNat (⟨(rd z86 y43.2.2 t50.1).f0, (rd z86 y43.2.2 t50.1).f1, 16⟩ : S86))).length := encL_put_lt c86_w (⟨(rd z86 y43.2.2 t50.1).f0, (rd z86 y43.2.2 t50.1).f1, 16⟩ : S86) b107.1 b107.2 (j := 1) (by decide)
        have g116 : (encL c86 (y43.2.2.set t50.1.toNat (⟨(rd z86 y43.2.2 t50.1).f0, (rd z86 y43.2.2 t50.1).f1, 16⟩ : S86)))[0 + t50.1.toNat * 3 + 1]? = some (.sc (.int .i64 ((rd z86 y43.2.2 t50.1).f1))) := encL_put_get c86_w (⟨(rd z86 y43.2.2 t50.1).f0, (rd z86 y43.2.2 t50.1).f1, 16⟩ : S86) b107.1 b107.2 (j := 1) (by decide)
        have g117 : (encL c86 (y43.2.2.set t50.1.toNat (⟨(rd z86 y43.2.2 t50.1).f0, (rd z86 y43.2.2 t50.1).f1, 16⟩ : S86))).set (0 + t50.1.toNat * 3 + 1) (.sc (.int .i64 16)) = encL c86 (y43.2.2.set t50.1.toNat (⟨(rd z86 y43.2.2 t50.1).f0, 16, 16⟩ : S86)) := encL_put2 c86_w b107.1 b107.2 (j := 1) (by decide) rfl
        simp +decide only [reduceAdd, reduceMul, reduceToNat, ak, b107, g113, g114, g115, g116, g117]
        obtain rfl := Option.some.inj h
        refine G56n _ _ (wj [3] [pI (.arg 0) .box, pI (.arg 1) .fz, pI (.tmp 9 0) .lst]) (hJ55 _ rfl)
       ·replace c105 := of_decide_eq_false c105; rw [if_neg c105] at h
        obtain rfl := Option.some.inj h
        refine G56n _ _ (wk [3] [pI (.arg 0) .box, pI (.arg 1) .fz, pI (.tmp 9 0) .lst]) (hJ55 _ rfl)
 ·replace h := hn; clear hn h54
  rintro _ rfl
  refine sr_k fun J118 hJ118 => ?_
  simp +decide only [reduceAdd, reduceMul, reduceToNat, ak]
  refine hJ118 _ ?_
  obtain rfl := Option.some.inj h
  refine hKr _ ⟨_, rfl, [⟨(.tmp 9 0), [], none, .lst⟩], _, rfl, rfl, ?_⟩
  exact cl
/-! ### spec.l6DrawMaps: function 94 -/
def C94_l0 : AC := .seq (.seq (.ga (.reg [.m 25 8, .m 26 6, .o (.bin 27 .lss (.t 25) (.t 26)), .m 28 27, .op (some (28, true)) (.mv 29 (.t 7)), .op (some (28, true)) (.bin 30 .lss (.t 29) (.const (.int .u64 4611686018427387904))), .o (.pick 31 (.t 28) (.t 30) (.const (.bool false))), .keep [0, 5, 6, 7, 8, 31]])) (.cond (.t 31) (.skip) (.gh (.exit 0)))) (.seq (.ga (.block 1 (.sr [.m 34 7, .m 35 0, .call none (some 36) 92 [.tmp 35, .const (.int .i64 9)], .o (.bin 37 .add (.k 1) (.t 36)), .m 38 0, .call none (some 39) 92 [.tmp 38, .const (.int .i64 7)], .o (.bin 40 .add (.k 1) (.t 39)), .o (.build 41 [.int .u64 0, .int .i64 0, .int .i64 0, .int .i64 0, .int .i64 0] [(0, 1, .tmp 34), (1, 1, .tmp 37), (3, 1, .tmp 40)]), .o (.alloc 9 [.int .u64 0, .int .i64 0, .int .i64 0, .int .i64 0, .int .i64 0]), .st 5 9 41, .keep [0, 5, 6, 7, 8, 9]] (.seq (.ga (.sr [.m 42 0, .call none (some 43) 92 [.tmp 42, .const (.int .i64 5)], .o (.bin 44 .eql (.t 43) (.k 0)), .keep [0, 5, 6, 7, 8, 9, 44]] (.cond (.t 44) (.reg [.m 45 0, .call none (some 46) 92 [.tmp 45, .const (.int .i64 255)], .o (.bin 47 .add (.k 1) (.t 46)), .fa 48 3 9, .st 1 48 47, .keep [0, 5, 6, 7, 8, 9]]) (.skip)))) (.seq (.ga (.sr [.m 49 0, .call none (some 50) 92 [.tmp 49, .const (.int .i64 3)], .o (.bin 51 .eql (.t 50) (.k 0)), .keep [0, 5, 6, 7, 8, 9, 51]] (.cond (.t 51) (.reg [.fa 52 4 9, .o (.store 1 (.t 52) (.k 1)), .keep [0, 5, 6, 7, 8, 9]]) (.skip)))) (.seq (.ga (.sr [.m 53 0, .call none (some 54) 92 [.tmp 53, .const (.int .i64 12)], .o (.bin 55 .eql (.t 54) (.k 0)), .keep [0, 5, 6, 7, 8, 9, 55]] (.cond (.t 55) (.reg [.fa 56 1 9, .o (.store 1 (.t 56) (.k 32)), .keep [0, 5, 6, 7, 8, 9]]) (.skip)))) (.seq (.ga (.seq (.ga (.reg [.m 57 8, .m 58 6, .o (.bin 59 .sub (.t 58) (.k 1)), .o (.bin 60 .eql (.t 57) (.t 59)), .m 61 60, .op (some (61, true)) (.mv 62 (.t 0)), .call (some (61, true)) (some 63) 92 [.tmp 62, .const (.int .i64 3)], .op (some (61, true)) (.bin 64 .eql (.t 63) (.k 0)), .o (.pick 65 (.t 61) (.t 64) (.const (.bool false))), .keep [0, 5, 6, 7, 8, 9, 65]])) (.cond (.t 65) (.sr [.fa 66 2 9, .o (.store 1 (.t 66) (.k 1)), .keep [0, 5, 6, 7, 8, 9]] (.reg [.fa 67 1 9, .o (.store 1 (.t 67) (.k 0)), .keep [0, 5, 6, 7, 8, 9]])) (.skip)))) (.sr [.m 68 5, .o (.load 69 true 5 (.t 9)), .o (.bslice 70 5 [.int .u64 0, .int .i64 0, .int .i64 0, .int .i64 0, .int .i64 0] 1 [(0, .tmp 69)]), .o (.app 71 5 40 true (.t 68) (.t 70)), .m 5 71, .keep [0, 5, 6, 7, 8, 9]] (.sr [.m 72 7, .fa 73 1 9, .ld 74 1 73, .o (.conv 75 .u64 (.t 74)), .o (.bin 76 .add (.t 72) (.t 75)), .m 7 76, .keep [0, 5, 6, 7, 8]] (.sr [.m 77 0, .call none (some 78) 92 [.tmp 77, .const (.int .i64 6)], .o (.bin 79 .eql (.t 78) (.k 0)), .keep [0, 5, 6, 7, 8, 79]] (.cond (.t 79) (.reg [.m 80 7, .m 81 0, .call none (some 82) 92 [.tmp 81, .const (.int .i64 9)], .o (.conv 83 .u64 (.t 82)), .o (.bin 84 .add (.t 80) (.t 83)), .m 7 84, .keep [0, 5, 6, 7, 8]]) (.skip)))))))))))) (.reg [.m 32 8, .o (.bin 33 .add (.t 32) (.k 1)), .m 8 33, .keep [0, 5, 6, 7, 8]]))
def C94 : AC := .sr [.o (.mv 4 (.const (.slice none 0 0))), .gh, .keep [0, 1]] (.sr [.o (.bslice 10 5 [.int .u64 0, .int .i64 0, .int .i64 0, .int .i64 0, .int .i64 0] 0 []), .m 5 10, .keep [0, 1, 5]] (.sr [.m 11 0, .m 12 1, .o (.bin 13 .add (.t 12) (.k 1)), .call none (some 14) 92 [.tmp 11, .tmp 13], .m 6 14, .keep [0, 5, 6]] (.sr [.m 15 0, .call none (some 16) 92 [.tmp 15, .const (.int .i64 50)], .o (.conv 17 .u64 (.t 16)), .m 7 17, .keep [0, 5, 6, 7]] (.seq (.ga (.sr [.m 18 0, .call none (some 19) 92 [.tmp 18, .const (.int .i64 12)], .o (.bin 20 .eql (.t 19) (.k 0)), .keep [0, 5, 6, 7, 20]] (.cond (.t 20) (.reg [.m 21 0, .call none (some 22) 92 [.tmp 21, .const (.int .i64 40)], .o (.conv 23 .u64 (.t 22)), .o (.bin 24 .sub (.const (.int .u64 4611686018427387904)) (.t 23)), .m 7 24, .keep [0, 5, 6, 7]]) (.skip)))) (.seq (.sr [.o (.mv 8 (.k 0)), .keep [0, 5, 6, 7, 8]] (.block 0 (.gh (.loop (.ga C94_l0))))) (.sr [.m 85 5, .m 4 85, .keep [4]] (.ret)))))))
def r94 : List RV := [.tmp 4]
theorem k94 : compC Try.prog 86 C94 (Try.f94.body.getD .skip) = some C94.erase := by kernel_rfl
theorem q94 : rvsOf Try.prog Try.f94.results.toList = some r94 := by kernel_rfl
def spec_l6DrawMaps.l0 (l0_0 : List Int) (x0_0 : Int) (x0_1 : Int) (x0_2 : Int) (x0_3 : Int) (x0_4 : Int) (x0_5 : (List S84)) : Option (Int × Int × (List S84)) := ((if x0_2 < x0_0 then (some (decide (x0_1 < 4611686018427387904))) else (some false)) >>= fun (j30 : Bool) => (if j30 = true then ((spec_l1Next.f l0_0 x0_3 x0_4 9 >>= fun t44 => (spec_l1Next.f l0_0 t44.2.1 t44.2.2 7 >>= fun t47 => ((spec_l1Next.f l0_0 t47.2.1 t47.2.2 5 >>= fun t55 => (if t55.1 = 0 then (spec_l1Next.f l0_0 t55.2.1 t55.2.2 255 >>= fun t59 => (some (t59.2.1, t59.2.2, IntKind.i64.wrap (1 + t59.1)))) else (some (t55.2.1, t55.2.2, IntKind.i64.wrap (1 + t47.1))))) >>= fun (j50 : Int × Int × Int) => ((spec_l1Next.f l0_0 j50.1 j50.2.1 3 >>= fun t67 => (if t67.1 = 0 then (some (t67.2.1, t67.2.2, 1)) else (some (t67.2.1, t67.2.2, 0)))) >>= fun (j62 : Int × Int × Int) => ((spec_l1Next.f l0_0 j62.1 j62.2.1 12 >>= fun t76 => (if t76.1 = 0 then (some (t76.2.1, t76.2.2, 32)) else (some (t76.2.1, t76.2.2, IntKind.i64.wrap (1 + t44.1))))) >>= fun (j71 : Int × Int × Int) => (((if x0_2 = IntKind.i64.wrap (x0_0 - 1) then (spec_l1Next.f l0_0 j71.1 j71.2.1 3 >>= fun t90 => (some (decide (t90.1 = 0), t90.2.1, t90.2.2))) else (some (false, j71.1, j71.2.1))) >>= fun (j84 : Bool × Int × Int) => (if j84.1 = true then (some (j84.2.1, j84.2.2, 0, 1)) else (some (j84.2.1, j84.2.2, j71.2.2, 0)))) >>= fun (j80 : Int × Int × Int × Int) => (if (x0_5.length + 1) * 40 ≤ 140737488355328 then (spec_l1Next.f l0_0 j80.1 j80.2.1 6 >>= fun t108 => (if t108.1 = 0 then (spec_l1Next.f l0_0 t108.2.1 t108.2.2 9 >>= fun t112 => (some (IntKind.u64.wrap ((IntKind.u64.wrap (x0_1 + (IntKind.u64.wrap j80.2.2.1))) + (IntKind.u64.wrap t112.1)), t112.2.1, t112.2.2, (x0_5 ++ ([(⟨x0_1, j80.2.2.1, j80.2.2.2, j50.2.2, j62.2.2⟩ : S84)] : List S84))))) else (some (IntKind.u64.wrap (x0_1 + (IntKind.u64.wrap j80.2.2.1)), t108.2.1, t108.2.2, (x0_5 ++ ([(⟨x0_1, j80.2.2.1, j80.2.2.2, j50.2.2, j62.2.2⟩ : S84)] : List S84)))))) else none))))))) >>= fun (j38 : Int × Int × Int × (List S84)) => (spec_l6DrawMaps.l0 l0_0 x0_0 j38.1 (IntKind.i64.wrap (x0_2 + 1)) j38.2.1 j38.2.2.1 j38.2.2.2)) else (some (x0_3, x0_4, x0_5))))
 partial_fixpoint
def spec_l6DrawMaps.f (l0_0 : List Int) (a0_1 : Int) (a0_2 : Int) (a1 : Int) : Option ((List S84) × Int × Int) := (spec_l1Next.f l0_0 a0_1 a0_2 (IntKind.i64.wrap (a1 + 1)) >>= fun t7 => (spec_l1Next.f l0_0 t7.2.1 t7.2.2 50 >>= fun t11 => ((spec_l1Next.f l0_0 t11.2.1 t11.2.2 12 >>= fun t19 => (if t19.1 = 0 then (spec_l1Next.f l0_0 t19.2.1 t19.2.2 40 >>= fun t23 => (some (IntKind.u64.wrap (4611686018427387904 - (IntKind.u64.wrap t23.1)), t23.2.1, t23.2.2))) else (some (IntKind.u64.wrap t11.1, t19.2.1, t19.2.2)))) >>= fun (j14 : Int × Int × Int) => (spec_l6DrawMaps.l0 l0_0 t7.1 j14.1 0 j14.2.1 j14.2.2 ([] : List S84) >>= fun (y115 : (Int × Int × (List S84))) => (some (y115.2.2, y115.1, y115.2.1))))))
def spec_l6DrawMaps.l0_M (cs1 : List Cell) (o1 : Nat) (l0_0 : List Int) (hv1 : Vw c_u8 1 cs1 o1 l0_0) (x0_0 : Int) (x0_1 : Int) (x0_2 : Int) (x0_3 : Int) (x0_4 : Int) (x0_5 : (List S84)) (y : (Int × Int × (List S84))) : Prop := ∀ (K : AE → St → Prop), (K (.exit 0) ⟨[(5, .c (.ref (.tmp 10 0) [] 0 y.2.2.length))], [(.arg 0, ⟨.box, 0, [.ref (.arg 1) [] o1 l0_0.length, .sc (.int .i64 y.1), .sc (.int .u64 y.2.1)]⟩), (.arg 1, ⟨.fz, 1, cs1⟩), (.tmp 10 0, ⟨.lst, 5, encL c84 y.2.2⟩)], [], []⟩) → loopS Try.prog 86 (.ga C94_l0) K ⟨[(0, .c (.ptr (.arg 0) [] 0)), (5, .c (.ref (.tmp 10 0) [] 0 x0_5.length)), (6, .c (.sc (.int .i64 x0_0))), (7, .c (.sc (.int .u64 x0_1))), (8, .c (.sc (.int .i64 x0_2)))], [(.arg 0, ⟨.box, 0, [.ref (.arg 1) [] o1 l0_0.length, .sc (.int .i64 x0_3), .sc (.int .u64 x0_4)]⟩), (.arg 1, ⟨.fz, 1, cs1⟩), (.tmp 10 0, ⟨.lst, 5, encL c84 x0_5⟩)], [], []⟩
theorem spec_l6DrawMaps.l0_walk (cs1 : List Cell) (o1 : Nat) (l0_0 : List Int) (hv1 : Vw c_u8 1 cs1 o1 l0_0) (x0_0 : Int) (x0_1 : Int) (x0_2 : Int) (x0_3 : Int) (x0_4 : Int) (x0_5 : (List S84)) (y : (Int × Int × (List S84))) (h : spec_l6DrawMaps.l0 l0_0 x0_0 x0_1 x0_2 x0_3 x0_4 x0_5 = some y) : spec_l6DrawMaps.l0_M cs1 o1 l0_0 hv1 x0_0 x0_1 x0_2 x0_3 x0_4 x0_5 y := by
 refine spec_l6DrawMaps.l0.partial_correctness l0_0 x0_0 (motive := fun x0_1 x0_2 x0_3 x0_4 x0_5 y => spec_l6DrawMaps.l0_M cs1 o1 l0_0 hv1 x0_0 x0_1 x0_2 x0_3 x0_4 x0_5 y) ?_ x0_1 x0_2 x0_3 x0_4 x0_5 y h
 clear h
 unfold spec_l6DrawMaps.l0_M
 intro rec ih x0_1 x0_2 x0_3 x0_4 x0_5 y h K hx0
 refine loop_unroll (ga_k fun G0 G0n G0r G0x => ?_)
 unfold C94_l0
 refine seq_k fun J29 hJ29 => ?_
 obtain ⟨j30, h31, hn⟩ := of_bind h
 refine seq_j (fun st => st = ⟨[(0, .c (.ptr (.arg 0) [] 0)), (5, .c (.ref (.tmp 10 0) [] 0 x0_5.length)), (6, .c (.sc (.int .i64 x0_0))), (7, .c (.sc (.int .u64 x0_1))), (8, .c (.sc (.int .i64 x0_2))), (31, .c (.sc (.bool j30)))], [(.arg 0, ⟨.box, 0, [.ref (.arg 1) [] o1 l0_0.length, .sc (.int .i64 x0_3), .sc (.int .u64 x0_4)]⟩), (.arg 1, ⟨.fz, 1, cs1⟩), (.tmp 10 0, ⟨.lst, 5, encL c84 x0_5⟩)], [], []⟩) (fun J32 hJ32 => ?_) ?_
 ·replace h := h31; clear hn
  refine ga_k fun G33 G33n G33r G33x => ?_
  refine reg_k ?_
  simp +decide only [reduceAdd, reduceMul, reduceToNat, ak]
  by_cases c34 : x0_2 < x0_0
  ·rw [if_pos c34] at h
   have e35 : decide (x0_2 < x0_0) = true := decide_eq_true c34
   simp +decide only [reduceAdd, reduceMul, reduceToNat, ak, e35]
   obtain rfl := Option.some.inj h
   refine G33n _ _ (wj [0, 5, 6, 7, 8, 31] [pI (.arg 0) .box, pI (.arg 1) .fz, pI (.tmp 10 0) .lst]) (hJ32 _ rfl)
  ·rw [if_neg c34] at h
   have e36 : decide (x0_2 < x0_0) = false := decide_eq_false c34
   simp +decide only [reduceAdd, reduceMul, reduceToNat, ak, e36]
   obtain rfl := Option.some.inj h
   refine G33n _ _ (wj [0, 5, 6, 7, 8, 31] [pI (.arg 0) .box, pI (.arg 1) .fz, pI (.tmp 10 0) .lst]) (hJ32 _ rfl)
 ·replace h := hn; clear hn h31
  rintro _ rfl
  refine cond_k (b := j30) rfl (fun c37 => ?_) (fun c37 => ?_)
  ·rw [if_pos c37] at h
   refine hJ29 _ ?_
   obtain ⟨j38, h39, hn⟩ := of_bind h
   refine seq_j (fun st => st = ⟨[(0, .c (.ptr (.arg 0) [] 0)), (5, .c (.ref (.tmp 10 0) [] 0 j38.2.2.2.length)), (6, .c (.sc (.int .i64 x0_0))), (7, .c (.sc (.int .u64 j38.1))), (8, .c (.sc (.int .i64 x0_2)))], [(.arg 0, ⟨.box, 0, [.ref (.arg 1) [] o1 l0_0.length, .sc (.int .i64 j38.2.1), .sc (.int .u64 j38.2.2.1)]⟩), (.arg 1, ⟨.fz, 1, cs1⟩), (.tmp 10 0, ⟨.lst, 5, encL c84 j38.2.2.2⟩)], [], []⟩) (fun J40 hJ40 => ?_) ?_
   ·replace h := h39; clear hn
    refine ga_k fun G41 G41n G41r G41x => ?_
    refine block_k fun B42 B42n B42x B42r B42j => ?_
    refine sr_k fun J43 hJ43 => ?_
    simp +decide only [reduceAdd, reduceMul, reduceToNat, ak]
    obtain ⟨t44, h45, h⟩ := of_bind h
    refine cm [pI (.arg 0) .box, pI (.arg 1) .fz] (spec_l1Next.tri (cs1) o1 l0_0 hv1 x0_3 x0_4 9 _ h45) (fun hl45 => ?_)
    refine cs (mW [.ref (.arg 1) [] o1 l0_0.length, .sc (.int .i64 t44.2.1), .sc (.int .u64 t44.2.2)] (mF (mN ..))) ?_ (s4 := [(.arg 0, ⟨.box, 0, [.ref (.arg 1) [] o1 l0_0.length, .sc (.int .i64 t44.2.1), .sc (.int .u64 t44.2.2)]⟩), (.arg 1, ⟨.fz, 1, cs1⟩), (.tmp 10 0, ⟨.lst, 5, encL c84 x0_5⟩)])
    simp +decide only [reduceAdd, reduceMul, reduceToNat, ak]
    obtain ⟨t47, h48, h⟩ := of_bind h
    refine cm [pI (.arg 0) .box, pI (.arg 1) .fz] (spec_l1Next.tri (cs1) o1 l0_0 hv1 t44.2.1 t44.2.2 7 _ h48) (fun hl48 => ?_)
    refine cs (mW [.ref (.arg 1) [] o1 l0_0.length, .sc (.int .i64 t47.2.1), .sc (.int .u64 t47.2.2)] (mF (mN ..))) ?_ (s4 := [(.arg 0, ⟨.box, 0, [.ref (.arg 1) [] o1 l0_0.length, .sc (.int .i64 t47.2.1), .sc (.int .u64 t47.2.2)]⟩), (.arg 1, ⟨.fz, 1, cs1⟩), (.tmp 10 0, ⟨.lst, 5, encL c84 x0_5⟩)])
    simp +decide only [reduceAdd, reduceMul, reduceToNat, ak]
    refine hJ43 _ ?_
    obtain ⟨j50, h51, hn⟩ := of_bind h
    refine seq_j (fun st => st = ⟨[(0, .c (.ptr (.arg 0) [] 0)), (5, .c (.ref (.tmp 10 0) [] 0 x0_5.length)), (6, .c (.sc (.int .i64 x0_0))), (7, .c (.sc (.int .u64 x0_1))), (8, .c (.sc (.int .i64 x0_2))), (9, .c (.ptr (.tmp 9 0) [] 0))], [(.arg 0, ⟨.box, 0, [.ref (.arg 1) [] o1 l0_0.length, .sc (.int .i64 j50.1), .sc (.int .u64 j50.2.1)]⟩), (.arg 1, ⟨.fz, 1, cs1⟩), (.tmp 10 0, ⟨.lst, 5, encL c84 x0_5⟩), (.tmp 9 0, ⟨.box, 0, [.sc (.int .u64 x0_1), .sc (.int .i64 (IntKind.i64.wrap (1 + t44.1))), .sc (.int .i64 0), .sc (.int .i64 j50.2.2), .sc (.int .i64 0)]⟩)], [], []⟩) (fun J52 hJ52 => ?_) ?_
    ·replace h := h51; clear hn
     refine ga_k fun G53 G53n G53r G53x => ?_
     refine sr_k fun J54 hJ54 => ?_
     simp +decide only [reduceAdd, reduceMul, reduceToNat, ak]
     obtain ⟨t55, h56, h⟩ := of_bind h
     refine cm [pI (.arg 0) .box, pI (.arg 1) .fz] (spec_l1Next.tri (cs1) o1 l0_0 hv1 t47.2.1 t47.2.2 5 _ h56) (fun hl56 => ?_)
     refine cs (mW [.ref (.arg 1) [] o1 l0_0.length, .sc (.int .i64 t55.2.1), .sc (.int .u64 t55.2.2)] (mF (mN ..))) ?_ (s4 := [(.arg 0, ⟨.box, 0, [.ref (.arg 1) [] o1 l0_0.length, .sc (.int .i64 t55.2.1), .sc (.int .u64 t55.2.2)]⟩), (.arg 1, ⟨.fz, 1, cs1⟩), (.tmp 10 0, ⟨.lst, 5, encL c84 x0_5⟩), (.tmp 9 0, ⟨.box, 0, [.sc (.int .u64 x0_1), .sc (.int .i64 (IntKind.i64.wrap (1 + t44.1))), .sc (.int .i64 0), .sc (.int .i64 (IntKind.i64.wrap (1 + t47.1))), .sc (.int .i64 0)]⟩)])
     simp +decide only [reduceAdd, reduceMul, reduceToNat, ak]
     refine hJ54 _ ?_
     refine cond_k (b := decide (t55.1 = 0)) rfl (fun c58 => ?_) (fun c58 => ?_)
     ·replace c58 := of_decide_eq_true c58; rw [if_pos c58] at h
      refine reg_k ?_
      simp +decide only [reduceAdd, reduceMul, reduceToNat, ak]
      obtain ⟨t59, h60, h⟩ := of_bind h
      refine cm [pI (.arg 0) .box, pI (.arg 1) .fz] (spec_l1Next.tri (cs1) o1 l0_0 hv1 t55.2.1 t55.2.2 255 _ h60) (fun hl60 => ?_)
      refine cs (mW [.ref (.arg 1) [] o1 l0_0.length, .sc (.int .i64 t59.2.1), .sc (.int .u64 t59.2.2)] (mF (mN ..))) ?_ (s4 := [(.arg 0, ⟨.box, 0, [.ref (.arg 1) [] o1 l0_0.length, .sc (.int .i64 t59.2.1), .sc (.int .u64 t59.2.2)]⟩), (.arg 1, ⟨.fz, 1, cs1⟩), (.tmp 10 0, ⟨.lst, 5, encL c84 x0_5⟩), (.tmp 9 0, ⟨.box, 0, [.sc (.int .u64 x0_1), .sc (.int .i64 (IntKind.i64.wrap (1 + t44.1))), .sc (.int .i64 0), .sc (.int .i64 (IntKind.i64.wrap (1 + t47.1))), .sc (.int .i64 0)]⟩)])
      simp +decide only [reduceAdd, reduceMul, reduceToNat, ak]
      obtain rfl := Option.some.inj h
      refine G53n _ _ (wk [0, 5, 6, 7, 8, 9] [pI (.arg 0) .box, pI (.arg 1) .fz, pI (.tmp 10 0) .lst, pI (.tmp 9 0) .box]) (hJ52 _ rfl)
     ·replace c58 := of_decide_eq_false c58; rw [if_neg c58] at h
      obtain rfl := Option.some.inj h
      refine G53n _ _ (wk [0, 5, 6, 7, 8, 9] [pI (.arg 0) .box, pI (.arg 1) .fz, pI (.tmp 10 0) .lst, pI (.tmp 9 0) .box]) (hJ52 _ rfl)
    ·replace h := hn; clear hn h51
     rintro _ rfl
     obtain ⟨j62, h63, hn⟩ := of_bind h
     refine seq_j (fun st => st = ⟨[(0, .c (.ptr (.arg 0) [] 0)), (5, .c (.ref (.tmp 10 0) [] 0 x0_5.length)), (6, .c (.sc (.int .i64 x0_0))), (7, .c (.sc (.int .u64 x0_1))), (8, .c (.sc (.int .i64 x0_2))), (9, .c (.ptr (.tmp 9 0) [] 0))], [(.arg 0, ⟨.box, 0, [.ref (.arg 1) [] o1 l0_0.length, .sc (.int .i64 j62.1), .sc (.int .u64 j62.2.1)]⟩), (.arg 1, ⟨.fz, 1, cs1⟩), (.tmp 10 0, ⟨.lst, 5, encL c84 x0_5⟩), (.tmp 9 0, ⟨.box, 0, [.sc (.int .u64 x0_1), .sc (.int .i64 (IntKind.i64.wrap (1 + t44.1))), .sc (.int .i64 0), .sc (.int .i64 j50.2.2), .sc (.int .i64 j62.2.2)]⟩)], [], []⟩) (fun J64 hJ64 => ?_) ?_
     ·replace h := h63; clear hn
      refine ga_k fun G65 G65n G65r G65x => ?_
      refine sr_k fun J66 hJ66 => ?_
      simp +decide only [reduceAdd, reduceMul, reduceToNat, ak]
      obtain ⟨t67, h68, h⟩ := of_bind h
      refine cm [pI (.arg 0) .box, pI (.arg 1) .fz] (spec_l1Next.tri (cs1) o1 l0_0 hv1 j50.1 j50.2.1 3 _ h68) (fun hl68 => ?_)
      refine cs (mW [.ref (.arg 1) [] o1 l0_0.length, .sc (.int .i64 t67.2.1), .sc (.int .u64 t67.2.2)] (mF (mN ..))) ?_ (s4 := [(.arg 0, ⟨.box, 0, [.ref (.arg 1) [] o1 l0_0.length, .sc (.int .i64 t67.2.1), .sc (.int .u64 t67.2.2)]⟩), (.arg 1, ⟨.fz, 1, cs1⟩), (.tmp 10 0, ⟨.lst, 5, encL c84 x0_5⟩), (.tmp 9 0, ⟨.box, 0, [.sc (.int .u64 x0_1), .sc (.int .i64 (IntKind.i64.wrap (1 + t44.1))), .sc (.int .i64 0), .sc (.int .i64 j50.2.2), .sc (.int .i64 0)]⟩)])
      simp +decide only [reduceAdd, reduceMul, reduceToNat, ak]
      refine hJ66 _ ?_
      refine cond_k (b := decide (t67.1 = 0)) rfl (fun c70 => ?_) (fun c70 => ?_)
      ·replace c70 := of_decide_eq_true c70; rw [if_pos c70] at h
       refine reg_k ?_
       simp +decide only [reduceAdd, reduceMul, reduceToNat, ak]
       obtain rfl := Option.some.inj h
       refine G65n _ _ (wk [0, 5, 6, 7, 8, 9] [pI (.arg 0) .box, pI (.arg 1) .fz, pI (.tmp 10 0) .lst, pI (.tmp 9 0) .box]) (hJ64 _ rfl)
      ·replace c70 := of_decide_eq_false c70; rw [if_neg c70] at h
       obtain rfl := Option.some.inj h
       refine G65n _ _ (wk [0, 5, 6, 7, 8, 9] [pI (.arg 0) .box, pI (.arg 1) .fz, pI (.tmp 10 0) .lst, pI (.tmp 9 0) .box]) (hJ64 _ rfl)
     ·replace h := hn; clear hn h63
      rintro _ rfl
      obtain ⟨j71, h72, hn⟩ := of_bind h
      refine seq_j (fun st => st = ⟨[(0, .c (.ptr (.arg 0) [] 0)), (5, .c (.ref (.tmp 10 0) [] 0 x0_5.length)), (6, .c (.sc (.int .i64 x0_0))), (7, .c (.sc (.int .u64 x0_1))), (8, .c (.sc (.int .i64 x0_2))), (9, .c (.ptr (.tmp 9 0) [] 0))], [(.arg 0, ⟨.box, 0, [.ref (.arg 1) [] o1 l0_0.length, .sc (.int .i64 j71.1), .sc (.int .u64 j71.2.1)]⟩), (.arg 1, ⟨.fz, 1, cs1⟩), (.tmp 10 0, ⟨.lst, 5, encL c84 x0_5⟩), (.tmp 9 0, ⟨.box, 0, [.sc (.int .u64 x0_1), .sc (.int .i64 j71.2.2), .sc (.int .i64 0), .sc (.int .i64 j50.2.2), .sc (.int .i64 j62.2.2)]⟩)], [], []⟩) (fun J73 hJ73 => ?_) ?_
      ·replace h := h72; clear hn
       refine ga_k fun G74 G74n G74r G74x => ?_
       refine sr_k fun J75 hJ75 => ?_
       simp +decide only [reduceAdd, reduceMul, reduceToNat, ak]
       obtain ⟨t76, h77, h⟩ := of_bind h
       refine cm [pI (.arg 0) .box, pI (.arg 1) .fz] (spec_l1Next.tri (cs1) o1 l0_0 hv1 j62.1 j62.2.1 12 _ h77) (fun hl77 => ?_)
       refine cs (mW [.ref (.arg 1) [] o1 l0_0.length, .sc (.int .i64 t76.2.1), .sc (.int .u64 t76.2.2)] (mF (mN ..))) ?_ (s4 := [(.arg 0, ⟨.box, 0, [.ref (.arg 1) [] o1 l0_0.length, .sc (.int .i64 t76.2.1), .sc (.int .u64 t76.2.2)]⟩), (.arg 1, ⟨.fz, 1, cs1⟩), (.tmp 10 0, ⟨.lst, 5, encL c84 x0_5⟩), (.tmp 9 0, ⟨.box, 0, [.sc (.int .u64 x0_1), .sc (.int .i64 (IntKind.i64.wrap (1 + t44.1))), .sc (.int .i64 0), .sc (.int .i64 j50.2.2), .sc (.int .i64 j62.2.2)]⟩)])
       simp +decide only [reduceAdd, reduceMul, reduceToNat, ak]
       refine hJ75 _ ?_
       refine cond_k (b := decide (t76.1 = 0)) rfl (fun c79 => ?_) (fun c79 => ?_)
       ·replace c79 := of_decide_eq_true c79; rw [if_pos c79] at h
        refine reg_k ?_
        simp +decide only [reduceAdd, reduceMul, reduceToNat, ak]
        obtain rfl := Option.some.inj h
        refine G74n _ _ (wk [0, 5, 6, 7, 8, 9] [pI (.arg 0) .box, pI (.arg 1) .fz, pI (.tmp 10 0) .lst, pI (.tmp 9 0) .box]) (hJ73 _ rfl)
       ·replace c79 := of_decide_eq_false c79; rw [if_neg c79] at h
        obtain rfl := Option.some.inj h
        refine G74n _ _ (wk [0, 5, 6, 7, 8, 9] [pI (.arg 0) .box, pI (.arg 1) .fz, pI (.tmp 10 0) .lst, pI (.tmp 9 0) .box]) (hJ73 _ rfl)
      ·replace h := hn; clear hn h72
       rintro _ rfl
       obtain ⟨j80, h81, hn⟩ := of_bind h
       refine seq_j (fun st => st = ⟨[(0, .c (.ptr (.arg 0) [] 0)), (5, .c (.ref (.tmp 10 0) [] 0 x0_5.length)), (6, .c (.sc (.int .i64 x0_0))), (7, .c (.sc (.int .u64 x0_1))), (8, .c (.sc (.int .i64 x0_2))), (9, .c (.ptr (.tmp 9 0) [] 0))], [(.arg 0, ⟨.box, 0, [.ref (.arg 1) [] o1 l0_0.length, .sc (.int .i64 j80.1), .sc (.int .u64 j80.2.1)]⟩), (.arg 1, ⟨.fz, 1, cs1⟩), (.tmp 10 0, ⟨.lst, 5, encL c84 x0_5⟩), (.tmp 9 0, ⟨.box, 0, [.sc (.int .u64 x0_1), .sc (.int .i64 j80.2.2.1), .sc (.int .i64 j80.2.2.2), .sc (.int .i64 j50.2.2), .sc (.int .i64 j62.2.2)]⟩)], [], []⟩) (fun J82 hJ82 => ?_) ?_
       ·replace h := h81; clear hn
        refine ga_k fun G83 G83n G83r G83x => ?_
        obtain ⟨j84, h85, hn⟩ := of_bind h
        refine seq_j (fun st => st = ⟨[(0, .c (.ptr (.arg 0) [] 0)), (5, .c (.ref (.tmp 10 0) [] 0 x0_5.length)), (6, .c (.sc (.int .i64 x0_0))), (7, .c (.sc (.int .u64 x0_1))), (8, .c (.sc (.int .i64 x0_2))), (9, .c (.ptr (.tmp 9 0) [] 0)), (65, .c (.sc (.bool j84.1)))], [(.arg 0, ⟨.box, 0, [.ref (.arg 1) [] o1 l0_0.length, .sc (.int .i64 j84.2.1), .sc (.int .u64 j84.2.2)]⟩), (.arg 1, ⟨.fz, 1, cs1⟩), (.tmp 10 0, ⟨.lst, 5, encL c84 x0_5⟩), (.tmp 9 0, ⟨.box, 0, [.sc (.int .u64 x0_1), .sc (.int .i64 j71.2.2), .sc (.int .i64 0), .sc (.int .i64 j50.2.2), .sc (.int .i64 j62.2.2)]⟩)], [], []⟩) (fun J86 hJ86 => ?_) ?_
        ·replace h := h85; clear hn
         refine ga_k fun G87 G87n G87r G87x => ?_
         refine reg_k ?_
         simp +decide only [reduceAdd, reduceMul, reduceToNat, ak]
         by_cases c88 : x0_2 = IntKind.i64.wrap (x0_0 - 1)
         ·rw [if_pos c88] at h
          have e89 : decide (x0_2 = IntKind.i64.wrap (x0_0 - 1)) = true := decide_eq_true c88
          simp +decide only [reduceAdd, reduceMul, reduceToNat, ak, e89]
          obtain ⟨t90, h91, h⟩ := of_bind h
          refine cm [pI (.arg 0) .box, pI (.arg 1) .fz] (spec_l1Next.tri (cs1) o1 l0_0 hv1 j71.1 j71.2.1 3 _ h91) (fun hl91 => ?_)
          refine cs (mW [.ref (.arg 1) [] o1 l0_0.length, .sc (.int .i64 t90.2.1), .sc (.int .u64 t90.2.2)] (mF (mN ..))) ?_ (s4 := [(.arg 0, ⟨.box, 0, [.ref (.arg 1) [] o1 l0_0.length, .sc (.int .i64 t90.2.1), .sc (.int .u64 t90.2.2)]⟩), (.arg 1, ⟨.fz, 1, cs1⟩), (.tmp 10 0, ⟨.lst, 5, encL c84 x0_5⟩), (.tmp 9 0, ⟨.box, 0, [.sc (.int .u64 x0_1), .sc (.int .i64 j71.2.2), .sc (.int .i64 0), .sc (.int .i64 j50.2.2), .sc (.int .i64 j62.2.2)]⟩)])
          simp +decide only [reduceAdd, reduceMul, reduceToNat, ak]
          obtain rfl := Option.some.inj h
          refine G87n _ _ (wj [0, 5, 6, 7, 8, 9, 65] [pI (.arg 0) .box, pI (.arg 1) .fz, pI (.tmp 10 0) .lst, pI (.tmp 9 0) .box]) (hJ86 _ rfl)
         ·rw [if_neg c88] at h
          have e93 : decide (x0_2 = IntKind.i64.wrap (x0_0 - 1)) = false := decide_eq_false c88
          simp +decide only [reduceAdd, reduceMul, reduceToNat, ak, e93]
          obtain rfl := Option.some.inj h
          refine G87n _ _ (wj [0, 5, 6, 7, 8, 9, 65] [pI (.arg 0) .box, pI (.arg 1) .fz, pI (.tmp 10 0) .lst, pI (.tmp 9 0) .box]) (hJ86 _ rfl)
        ·replace h := hn; clear hn h85
         rintro _ rfl
         refine cond_k (b := j84.1) rfl (fun c94 => ?_) (fun c94 => ?_)
         ·rw [if_pos c94] at h
          refine sr_k fun J95 hJ95 => ?_
          simp +decide only [reduceAdd, reduceMul, reduceToNat, ak]
          refine hJ95 _ ?_
          refine reg_k ?_
          simp +decide only [reduceAdd, reduceMul, reduceToNat, ak]
          obtain rfl := Option.some.inj h
          refine G83n _ _ (wk [0, 5, 6, 7, 8, 9] [pI (.arg 0) .box, pI (.arg 1) .fz, pI (.tmp 10 0) .lst, pI (.tmp 9 0) .box]) (hJ82 _ rfl)
         ·rw [if_neg (Bool.eq_false_iff.1 c94)] at h
          obtain rfl := Option.some.inj h
          refine G83n _ _ (wk [0, 5, 6, 7, 8, 9] [pI (.arg 0) .box, pI (.arg 1) .fz, pI (.tmp 10 0) .lst, pI (.tmp 9 0) .box]) (hJ82 _ rfl)
       ·replace h := hn; clear hn h81
        rintro _ rfl
        refine sr_k fun J96 hJ96 => ?_
        have g97 : (List.replicate 1 ([.int .u64 0, .int .i64 0, .int .i64 0, .int .i64 0, .int .i64 0] : List Value)).flatten = [.int .u64 0, .int .i64 0, .int .i64 0, .int .i64 0, .int .i64 0] := rfl
        have g98 : (⟨.lst, 5, [.sc (.int .u64 x0_1), .sc (.int .i64 j80.2.2.1), .sc (.int .i64 j80.2.2.2), .sc (.int .i64 j50.2.2), .sc (.int .i64 j62.2.2)]⟩ : Root) = ⟨.lst, 5, encL c84 ([(⟨x0_1, j80.2.2.1, j80.2.2.2, j50.2.2, j62.2.2⟩ : S84)] : List S84)⟩ := rfl
        have g99 : ([(⟨x0_1, j80.2.2.1, j80.2.2.2, j50.2.2, j62.2.2⟩ : S84)] : List S84).length = 1 := rfl
        have g100 : (encL c84 ([(⟨x0_1, j80.2.2.1, j80.2.2.2, j50.2.2, j62.2.2⟩ : S84)] : List S84)).length = 1 * 5 := by simp [encL_length c84_w]
        have g101 : (encL c84 ([(⟨x0_1, j80.2.2.1, j80.2.2.2, j50.2.2, j62.2.2⟩ : S84)] : List S84)).all nd = true := rfl
        obtain ⟨b102, h⟩ := of_guard h
        have g103 : appLim x0_5.length 1 40 := ⟨b102, by have := b102; omega⟩
        have g104 : (encL c84 x0_5).length = x0_5.length * 5 := by simp [encL_length c84_w]
        have g105 : encL c84 x0_5 ++ encL c84 ([(⟨x0_1, j80.2.2.1, j80.2.2.2, j50.2.2, j62.2.2⟩ : S84)] : List S84) = encL c84 (x0_5 ++ ([(⟨x0_1, j80.2.2.1, j80.2.2.2, j50.2.2, j62.2.2⟩ : S84)] : List S84)) := (encL_append _ _).symm
        simp +decide only [reduceAdd, reduceMul, reduceToNat, ak, g97, g98, g99, g100, g101, g103, g104, g105]
        refine hJ96 _ ?_
        refine sr_k fun J106 hJ106 => ?_
        simp +decide only [reduceAdd, reduceMul, reduceToNat, ak]
        refine hJ106 _ ?_
        refine sr_k fun J107 hJ107 => ?_
        simp +decide only [reduceAdd, reduceMul, reduceToNat, ak]
        obtain ⟨t108, h109, h⟩ := of_bind h
        refine cm [pI (.arg 0) .box, pI (.arg 1) .fz] (spec_l1Next.tri (cs1) o1 l0_0 hv1 j80.1 j80.2.1 6 _ h109) (fun hl109 => ?_)
        refine cs (mW [.ref (.arg 1) [] o1 l0_0.length, .sc (.int .i64 t108.2.1), .sc (.int .u64 t108.2.2)] (mF (mN ..))) ?_ (s4 := [(.arg 0, ⟨.box, 0, [.ref (.arg 1) [] o1 l0_0.length, .sc (.int .i64 t108.2.1), .sc (.int .u64 t108.2.2)]⟩), (.arg 1, ⟨.fz, 1, cs1⟩), (.tmp 10 0, ⟨.lst, 5, encL c84 (x0_5 ++ ([(⟨x0_1, j80.2.2.1, j80.2.2.2, j50.2.2, j62.2.2⟩ : S84)] : List S84))⟩), (.tmp 9 0, ⟨.box, 0, [.sc (.int .u64 x0_1), .sc (.int .i64 j80.2.2.1), .sc (.int .i64 j80.2.2.2), .sc (.int .i64 j50.2.2), .sc (.int .i64 j62.2.2)]⟩)])
        simp +decide only [reduceAdd, reduceMul, reduceToNat, ak]
        refine hJ107 _ ?_
        refine cond_k (b := decide (t108.1 = 0)) rfl (fun c111 => ?_) (fun c111 => ?_)
        ·replace c111 := of_decide_eq_true c111; rw [if_pos c111] at h
         refine reg_k ?_
         simp +decide only [reduceAdd, reduceMul, reduceToNat, ak]
         obtain ⟨t112, h113, h⟩ := of_bind h
         refine cm [pI (.arg 0) .box, pI (.arg 1) .fz] (spec_l1Next.tri (cs1) o1 l0_0 hv1 t108.2.1 t108.2.2 9 _ h113) (fun hl113 => ?_)
         refine cs (mW [.ref (.arg 1) [] o1 l0_0.length, .sc (.int .i64 t112.2.1), .sc (.int .u64 t112.2.2)] (mF (mN ..))) ?_ (s4 := [(.arg 0, ⟨.box, 0, [.ref (.arg 1) [] o1 l0_0.length, .sc (.int .i64 t112.2.1), .sc (.int .u64 t112.2.2)]⟩), (.arg 1, ⟨.fz, 1, cs1⟩), (.tmp 10 0, ⟨.lst, 5, encL c84 (x0_5 ++ ([(⟨x0_1, j80.2.2.1, j80.2.2.2, j50.2.2, j62.2.2⟩ : S84)] : List S84))⟩), (.tmp 9 0, ⟨.box, 0, [.sc (.int .u64 x0_1), .sc (.int .i64 j80.2.2.1), .sc (.int .i64 j80.2.2.2), .sc (.int .i64 j50.2.2), .sc (.int .i64 j62.2.2)]⟩)])
         simp +decide only [reduceAdd, reduceMul, reduceToNat, ak]
         refine B42n _ ?_
         obtain rfl := Option.some.inj h
         refine G41n _ _ (wj [0, 5, 6, 7, 8] [pI (.arg 0) .box, pI (.arg 1) .fz, pI (.tmp 10 0) .lst]) (hJ40 _ rfl)
        ·replace c111 := of_decide_eq_false c111; rw [if_neg c111] at h
         refine B42n _ ?_
         obtain rfl := Option.some.inj h
         refine G41n _ _ (wj [0, 5, 6, 7, 8] [pI (.arg 0) .box, pI (.arg 1) .fz, pI (.tmp 10 0) .lst]) (hJ40 _ rfl)
   ·replace h := hn; clear hn h39
    rintro _ rfl
    refine reg_k ?_
    simp +decide only [reduceAdd, reduceMul, reduceToNat, ak]
    refine G0n _ _ (wk [0, 5, 6, 7, 8] [pI (.arg 0) .box, pI (.arg 1) .fz, pI (.tmp 10 0) .lst]) (ih _ _ _ _ _ _ h K hx0)
  ·rw [if_neg (Bool.eq_false_iff.1 c37)] at h
   obtain rfl := Option.some.inj h
   refine gh_k (wk [5] [pI (.arg 0) .box, pI (.arg 1) .fz, pI (.tmp 10 0) .lst]) ?_
   refine G0x _ _ ?_
   exact hx0
theorem spec_l6DrawMaps.tri (cs1 : List Cell) (o1 : Nat) (l0_0 : List Int) (hv1 : Vw c_u8 1 cs1 o1 l0_0) (a0_1 : Int) (a0_2 : Int) (a1 : Int) (r : (List S84) × Int × Int) (h : spec_l6DrawMaps.f l0_0 a0_1 a0_2 a1 = some r) : Tri Try.prog 94 [.c (.ptr (.arg 0) [] 0), .c (.sc (.int .i64 a1))] [(.arg 0, ⟨.box, 0, [.ref (.arg 1) [] o1 l0_0.length, .sc (.int .i64 a0_1), .sc (.int .u64 a0_2)]⟩), (.arg 1, ⟨.fz, 1, cs1⟩)] (fun o => o = ⟨.c (.ref (.res 0) [] 0 r.1.length), [(.arg 0, ⟨.box, 0, [.ref (.arg 1) [] o1 l0_0.length, .sc (.int .i64 r.2.1), .sc (.int .u64 r.2.2)]⟩), (.arg 1, ⟨.fz, 1, cs1⟩), (.res 0, ⟨.lst, 5, encL c84 r.1⟩)], [], []⟩) := by
 refine tri_of_body (ac := C94) (xs := r94) Try.func94 (show Try.f94.body = some (Try.f94.body.getD .skip) from rfl) k94 q94 (Nat.le_of_ble_eq_true rfl) ?_
 refine body_of fun K hKn hKr => ?_
 unfold spec_l6DrawMaps.f at h
 unfold C94
 simp only [initT, Nat.reduceAdd]
 refine sr_k fun J1 hJ1 => ?_
 simp +decide only [reduceAdd, reduceMul, reduceToNat, ak]
 refine gho_k (Weak.nm' 4 (.tmp 4 20) 5 (encL c84 ([] : List S84)) rfl rfl rfl) ?_
 simp +decide only [reduceAdd, reduceMul, reduceToNat, ak]
 refine hJ1 _ ?_
 refine sr_k fun J2 hJ2 => ?_
 have g3 : (List.replicate 0 ([.int .u64 0, .int .i64 0, .int .i64 0, .int .i64 0, .int .i64 0] : List Value)).flatten = [] := rfl
 have g4 : (⟨.lst, 5, []⟩ : Root) = ⟨.lst, 5, encL c84 ([] : List S84)⟩ := rfl
 have g5 : ([] : List S84).length = 0 := rfl
 simp +decide only [reduceAdd, reduceMul, reduceToNat, ak, g3, g4, g5]
 refine hJ2 _ ?_
 refine sr_k fun J6 hJ6 => ?_
 simp +decide only [reduceAdd, reduceMul, reduceToNat, ak]
 obtain ⟨t7, h8, h⟩ := of_bind h
 refine cm [pI (.arg 0) .box, pI (.arg 1) .fz] (spec_l1Next.tri (cs1) o1 l0_0 hv1 a0_1 a0_2 (IntKind.i64.wrap (a1 + 1)) _ h8) (fun hl8 => ?_)
 refine cs (mW [.ref (.arg 1) [] o1 l0_0.length, .sc (.int .i64 t7.2.1), .sc (.int .u64 t7.2.2)] (mF (mN ..))) ?_ (s4 := [(.arg 0, ⟨.box, 0, [.ref (.arg 1) [] o1 l0_0.length, .sc (.int .i64 t7.2.1), .sc (.int .u64 t7.2.2)]⟩), (.arg 1, ⟨.fz, 1, cs1⟩), (.tmp 4 20, ⟨.lst, 5, encL c84 ([] : List S84)⟩), (.tmp 10 0, ⟨.lst, 5, encL c84 ([] : List S84)⟩)])
 simp +decide only [reduceAdd, reduceMul, reduceToNat, ak]
 refine hJ6 _ ?_
 refine sr_k fun J10 hJ10 => ?_
 simp +decide only [reduceAdd, reduceMul, reduceToNat, ak]
 obtain ⟨t11, h12, h⟩ := of_bind h
 refine cm [pI (.arg 0) .box, pI (.arg 1) .fz] (spec_l1Next.tri (cs1) o1 l0_0 hv1 t7.2.1 t7.2.2 50 _ h12) (fun hl12 => ?_)
 refine cs (mW [.ref (.arg 1) [] o1 l0_0.length, .sc (.int .i64 t11.2.1), .sc (.int .u64 t11.2.2)] (mF (mN ..))) ?_ (s4 := [(.arg 0, ⟨.box, 0, [.ref (.arg 1) [] o1 l0_0.length, .sc (.int .i64 t11.2.1), .sc (.int .u64 t11.2.2)]⟩), (.arg 1, ⟨.fz, 1, cs1⟩), (.tmp 4 20, ⟨.lst, 5, encL c84 ([] : List S84)⟩), (.tmp 10 0, ⟨.lst, 5, encL c84 ([] : List S84)⟩)])
 simp +decide only [reduceAdd, reduceMul, reduceToNat, ak]
 refine hJ10 _ ?_
 obtain ⟨j14, h15, hn⟩ := of_bind h
 refine seq_j (fun st => st = ⟨[(0, .c (.ptr (.arg 0) [] 0)), (5, .c (.ref (.tmp 10 0) [] 0 (([] : List S84).length))), (6, .c (.sc (.int .i64 t7.1))), (7, .c (.sc (.int .u64 j14.1)))], [(.arg 0, ⟨.box, 0, [.ref (.arg 1) [] o1 l0_0.length, .sc (.int .i64 j14.2.1), .sc (.int .u64 j14.2.2)]⟩), (.arg 1, ⟨.fz, 1, cs1⟩), (.tmp 10 0, ⟨.lst, 5, encL c84 ([] : List S84)⟩)], [], []⟩) (fun J16 hJ16 => ?_) ?_
 ·replace h := h15; clear hn
  refine ga_k fun G17 G17n G17r G17x => ?_
  refine sr_k fun J18 hJ18 => ?_
  simp +decide only [reduceAdd, reduceMul, reduceToNat, ak]
  obtain ⟨t19, h20, h⟩ := of_bind h
  refine cm [pI (.arg 0) .box, pI (.arg 1) .fz] (spec_l1Next.tri (cs1) o1 l0_0 hv1 t11.2.1 t11.2.2 12 _ h20) (fun hl20 => ?_)
  refine cs (mW [.ref (.arg 1) [] o1 l0_0.length, .sc (.int .i64 t19.2.1), .sc (.int .u64 t19.2.2)] (mF (mN ..))) ?_ (s4 := [(.arg 0, ⟨.box, 0, [.ref (.arg 1) [] o1 l0_0.length, .sc (.int .i64 t19.2.1), .sc (.int .u64 t19.2.2)]⟩), (.arg 1, ⟨.fz, 1, cs1⟩), (.tmp 4 20, ⟨.lst, 5, encL c84 ([] : List S84)⟩), (.tmp 10 0, ⟨.lst, 5, encL c84 ([] : List S84)⟩)])
  simp +decide only [reduceAdd, reduceMul, reduceToNat, ak]
  refine hJ18 _ ?_
  refine cond_k (b := decide (t19.1 = 0)) rfl (fun c22 => ?_) (fun c22 => ?_)
  ·replace c22 := of_decide_eq_true c22; rw [if_pos c22] at h
   refine reg_k ?_
   simp +decide only [reduceAdd, reduceMul, reduceToNat, ak]
   obtain ⟨t23, h24, h⟩ := of_bind h
   refine cm [pI (.arg 0) .box, pI (.arg 1) .fz] (spec_l1Next.tri (cs1) o1 l0_0 hv1 t19.2.1 t19.2.2 40 _ h24) (fun hl24 => ?_)
   refine cs (mW [.ref (.arg 1) [] o1 l0_0.length, .sc (.int .i64 t23.2.1), .sc (.int .u64 t23.2.2)] (mF (mN ..))) ?_ (s4 := [(.arg 0, ⟨.box, 0, [.ref (.arg 1) [] o1 l0_0.length, .sc (.int .i64 t23.2.1), .sc (.int .u64 t23.2.2)]⟩), (.arg 1, ⟨.fz, 1, cs1⟩), (.tmp 4 20, ⟨.lst, 5, encL c84 ([] : List S84)⟩), (.tmp 10 0, ⟨.lst, 5, encL c84 ([] : List S84)⟩)])
   simp +decide only [reduceAdd, reduceMul, reduceToNat, ak]
   obtain rfl := Option.some.inj h
   refine G17n _ _ (wj [0, 5, 6, 7] [pI (.arg 0) .box, pI (.arg 1) .fz, pI (.tmp 10 0) .lst]) (hJ16 _ rfl)
  ·replace c22 := of_decide_eq_false c22; rw [if_neg c22] at h
   obtain rfl := Option.some.inj h
   refine G17n _ _ (wj [0, 5, 6, 7] [pI (.arg 0) .box, pI (.arg 1) .fz, pI (.tmp 10 0) .lst]) (hJ16 _ rfl)
 ·replace h := hn; clear hn h15
  rintro _ rfl
  refine seq_k fun J26 hJ26 => ?_
  refine sr_k fun J27 hJ27 => ?_
  simp +decide only [reduceAdd, reduceMul, reduceToNat, ak]
  refine hJ27 _ ?_
  refine block_k fun B28 B28n B28x B28r B28j => ?_
  obtain ⟨y115, h116, h⟩ := of_bind h
  refine gh_k (wk [0, 5, 6, 7, 8] [pI (.arg 0) .box, pI (.arg 1) .fz, pI (.tmp 10 0) .lst]) ?_
  rw [e_loop]
  refine spec_l6DrawMaps.l0_walk cs1 o1 l0_0 hv1 t7.1 j14.1 0 j14.2.1 j14.2.2 ([] : List S84) _ h116 _ ?_
  refine B28x _ ?_
  refine hJ26 _ ?_
  refine sr_k fun J117 hJ117 => ?_
  simp +decide only [reduceAdd, reduceMul, reduceToNat, ak]
  refine hJ117 _ ?_
  obtain rfl := Option.some.inj h
  refine hKr _ ⟨_, rfl, [⟨(.tmp 10 0), [], none, .lst⟩], _, rfl, rfl, ?_⟩
  exact cl
/-! ### spec.l6SpoilMaps: function 95 -/
def C95 : AC := .sr [.o (.mv 4 (.const (.slice none 0 0))), .gh, .keep [0, 1]] (.seq (.sr [.m 6 1, .ln 7 6, .o (.bin 8 .eql (.t 7) (.k 0)), .keep [0, 1, 8]] (.cond (.t 8) (.sr [.m 9 1, .o (.build 10 [.int .u64 0, .int .i64 0, .int .i64 0, .int .i64 0, .int .i64 0] [(0, 1, .const (.int .u64 3)), (1, 1, .const (.int .i64 1))]), .o (.bslice 11 5 [.int .u64 0, .int .i64 0, .int .i64 0, .int .i64 0, .int .i64 0] 1 [(0, .tmp 10)]), .o (.app 12 5 40 true (.t 9) (.t 11)), .m 4 12, .keep [4]] (.gh .ret)) (.skip))) (.sr [.m 13 0, .m 14 1, .ln 15 14, .call none (some 16) 92 [.tmp 13, .tmp 15], .m 5 16, .keep [0, 1, 5]] (.seq (.ga (.sr [.m 17 0, .call none (some 18) 92 [.tmp 17, .const (.int .i64 9)], .keep [1, 5, 18]] (.block 0 (.sr [.o (.bin 20 .eql (.t 18) (.k 0)), .m 19 20, .keep [1, 5, 18, 19]] (.cond (.t 19) (.reg [.m 21 1, .m 22 5, .ia 23 5 21 22, .fa 24 3 23, .o (.store 1 (.t 24) (.k 0)), .keep [1]]) (.sr [.o (.bin 26 .eql (.t 18) (.k 1)), .m 25 26, .keep [1, 5, 18, 25]] (.cond (.t 25) (.reg [.m 27 1, .m 28 5, .ia 29 5 27 28, .fa 30 3 29, .o (.store 1 (.t 30) (.k 256)), .keep [1]]) (.sr [.o (.bin 32 .eql (.t 18) (.k 2)), .m 31 32, .keep [1, 5, 18, 31]] (.cond (.t 31) (.reg [.m 33 1, .m 34 5, .ia 35 5 33 34, .fa 36 4 35, .o (.store 1 (.t 36) (.k 2)), .keep [1]]) (.sr [.o (.bin 38 .eql (.t 18) (.k 3)), .m 37 38, .keep [1, 5, 18, 37]] (.cond (.t 37) (.reg [.m 39 1, .m 40 5, .ia 41 5 39 40, .fa 42 1 41, .o (.store 1 (.t 42) (.k 33)), .keep [1]]) (.sr [.o (.bin 44 .eql (.t 18) (.k 4)), .m 43 44, .keep [1, 5, 18, 43]] (.cond (.t 43) (.reg [.m 45 1, .m 46 5, .ia 47 5 45 46, .fa 48 2 47, .o (.store 1 (.t 48) (.k 1)), .keep [1]]) (.sr [.o (.bin 50 .eql (.t 18) (.k 5)), .m 49 50, .keep [1, 5, 18, 49]] (.cond (.t 49) (.reg [.m 51 1, .m 52 5, .ia 53 5 51 52, .fa 54 0 53, .o (.store 1 (.t 54) (.const (.int .u64 4611686018427387905))), .keep [1]]) (.sr [.o (.bin 56 .eql (.t 18) (.k 6)), .m 55 56, .keep [1, 5, 18, 55]] (.cond (.t 55) (.reg [.m 57 1, .m 58 5, .m 59 1, .m 60 5, .ia 61 5 59 60, .fa 62 0 61, .ld 63 1 62, .o (.bin 64 .sub (.t 63) (.const (.int .u64 1))), .ia 65 5 57 58, .fa 66 0 65, .st 1 66 64, .keep [1]]) (.sr [.o (.bin 68 .eql (.t 18) (.k 7)), .m 67 68, .keep [1, 5, 18, 67]] (.cond (.t 67) (.reg [.m 69 1, .m 70 5, .ia 71 5 69 70, .fa 72 1 71, .o (.store 1 (.t 72) (.const (.int .i64 (-1)))), .keep [1]]) (.sr [.o (.bin 74 .eql (.t 18) (.k 8)), .m 73 74, .keep [1, 5, 73]] (.cond (.t 73) (.reg [.m 75 1, .m 76 5, .ia 77 5 75 76, .fa 78 2 77, .o (.store 1 (.t 78) (.const (.int .i64 (-1)))), .keep [1]]) (.skip)))))))))))))))))))))) (.sr [.m 79 1, .m 4 79, .keep [4]] (.gh .ret)))))
def r95 : List RV := [.tmp 4]
theorem k95 : compC Try.prog 80 C95 (Try.f95.body.getD .skip) = some C95.erase := by kernel_rfl
theorem q95 : rvsOf Try.prog Try.f95.results.toList = some r95 := by kernel_rfl
def spec_l6SpoilMaps.f (l0_0 : List Int) (a0_1 : Int) (a0_2 : Int) (l1 : List S84) : Option (Int × Int × (List S84)) := (if (l1.length : Int) = 0 then (if (l1.length + 1) * 40 ≤ 140737488355328 then (some (a0_1, a0_2, (l1 ++ ([(⟨3, 1, 0, 0, 0⟩ : S84)] : List S84)))) else none) else (spec_l1Next.f l0_0 a0_1 a0_2 (l1.length : Int) >>= fun t16 => ((spec_l1Next.f l0_0 t16.2.1 t16.2.2 9 >>= fun t24 => (if t24.1 = 0 then (if 0 ≤ t16.1 ∧ t16.1 < (l1.length : Int) then (some (t24.2.1, t24.2.2, (l1.set t16.1.toNat (⟨(rd z84 l1 t16.1).f0, (rd z84 l1 t16.1).f1, (rd z84 l1 t16.1).f2, 0, (rd z84 l1 t16.1).f4⟩ : S84)))) else none) else (if t24.1 = 1 then (if 0 ≤ t16.1 ∧ t16.1 < (l1.length : Int) then (some (t24.2.1, t24.2.2, (l1.set t16.1.toNat (⟨(rd z84 l1 t16.1).f0, (rd z84 l1 t16.1).f1, (rd z84 l1 t16.1).f2, 256, (rd z84 l1 t16.1).f4⟩ : S84)))) else none) else (if t24.1 = 2 then (if 0 ≤ t16.1 ∧ t16.1 < (l1.length : Int) then (some (t24.2.1, t24.2.2, (l1.set t16.1.toNat (⟨(rd z84 l1 t16.1).f0, (rd z84 l1 t16.1).f1, (rd z84 l1 t16.1).f2, (rd z84 l1 t16.1).f3, 2⟩ : S84)))) else none) else (if t24.1 = 3 then (if 0 ≤ t16.1 ∧ t16.1 < (l1.length : Int) then (some (t24.2.1, t24.2.2, (l1.set t16.1.toNat (⟨(rd z84 l1 t16.1).f0, 33, (rd z84 l1 t16.1).f2, (rd z84 l1 t16.1).f3, (rd z84 l1 t16.1).f4⟩ : S84)))) else none) else (if t24.1 = 4 then (if 0 ≤ t16.1 ∧ t16.1 < (l1.length : Int) then (some (t24.2.1, t24.2.2, (l1.set t16.1.toNat (⟨(rd z84 l1 t16.1).f0, (rd z84 l1 t16.1).f1, 1, (rd z84 l1 t16.1).f3, (rd z84 l1 t16.1).f4⟩ : S84)))) else none) else (if t24.1 = 5 then (if 0 ≤ t16.1 ∧ t16.1 < (l1.length : Int) then (some (t24.2.1, t24.2.2, (l1.set t16.1.toNat (⟨4611686018427387905, (rd z84 l1 t16.1).f1, (rd z84 l1 t16.1).f2, (rd z84 l1 t16.1).f3, (rd z84 l1 t16.1).f4⟩ : S84)))) else none) else (if t24.1 = 6 then (if 0 ≤ t16.1 ∧ t16.1 < (l1.length : Int) then (some (t24.2.1, t24.2.2, (l1.set t16.1.toNat (⟨IntKind.u64.wrap (((rd z84 l1 t16.1).f0) - 1), (rd z84 l1 t16.1).f1, (rd z84 l1 t16.1).f2, (rd z84 l1 t16.1).f3, (rd z84 l1 t16.1).f4⟩ : S84)))) else none) else (if t24.1 = 7 then (if 0 ≤ t16.1 ∧ t16.1 < (l1.length : Int) then (some (t24.2.1, t24.2.2, (l1.set t16.1.toNat (⟨(rd z84 l1 t16.1).f0, (-1), (rd z84 l1 t16.1).f2, (rd z84 l1 t16.1).f3, (rd z84 l1 t16.1).f4⟩ : S84)))) else none) else (if t24.1 = 8 then (if 0 ≤ t16.1 ∧ t16.1 < (l1.length : Int) then (some (t24.2.1, t24.2.2, (l1.set t16.1.toNat (⟨(rd z84 l1 t16.1).f0, (rd z84 l1 t16.1).f1, (-1), (rd z84 l1 t16.1).f3, (rd z84 l1 t16.1).f4⟩ : S84)))) else none) else (some (t24.2.1, t24.2.2, l1)))))))))))) >>= fun (j19 : Int × Int × (List S84)) => (some (j19.1, j19.2.1, j19.2.2)))))
theorem spec_l6SpoilMaps.tri (cs1 : List Cell) (o1 : Nat) (l0_0 : List Int) (hv1 : Vw c_u8 1 cs1 o1 l0_0) (a0_1 : Int) (a0_2 : Int) (l1 : List S84) (r : Int × Int × (List S84)) (h : spec_l6SpoilMaps.f l0_0 a0_1 a0_2 l1 = some r) : Tri Try.prog 95 [.c (.ptr (.arg 0) [] 0), .c (.ref (.arg 2) [] 0 l1.length)] [(.arg 0, ⟨.box, 0, [.ref (.arg 1) [] o1 l0_0.length, .sc (.int .i64 a0_1), .sc (.int .u64 a0_2)]⟩), (.arg 1, ⟨.fz, 1, cs1⟩), (.arg 2, ⟨.lst, 5, encL c84 l1⟩)] (fun o => o = ⟨.c (.ref (.arg 2) [] 0 r.2.2.length), [(.arg 0, ⟨.box, 0, [.ref (.arg 1) [] o1 l0_0.length, .sc (.int .i64 r.1), .sc (.int .u64 r.2.1)]⟩), (.arg 1, ⟨.fz, 1, cs1⟩), (.arg 2, ⟨.lst, 5, encL c84 r.2.2⟩)], [], [2]⟩) := by
 refine tri_of_body (ac := C95) (xs := r95) Try.func95 (show Try.f95.body = some (Try.f95.body.getD .skip) from rfl) k95 q95 (Nat.le_of_ble_eq_true rfl) ?_
 refine body_of fun K hKn hKr => ?_
 unfold spec_l6SpoilMaps.f at h
 unfold C95
 simp only [initT, Nat.reduceAdd]
 refine sr_k fun J1 hJ1 => ?_
 simp +decide only [reduceAdd, reduceMul, reduceToNat, ak]
 refine gho_k (Weak.nm' 4 (.tmp 4 20) 5 (encL c84 ([] : List S84)) rfl rfl rfl) ?_
 simp +decide only [reduceAdd, reduceMul, reduceToNat, ak]
 refine hJ1 _ ?_
 refine seq_k fun J2 hJ2 => ?_
 refine sr_k fun J3 hJ3 => ?_
 simp +decide only [reduceAdd, reduceMul, reduceToNat, ak]
 refine hJ3 _ ?_
 refine cond_k (b := decide ((l1.length : Int) = 0)) rfl (fun c4 => ?_) (fun c4 => ?_)
 ·replace c4 := of_decide_eq_true c4; rw [if_pos c4] at h
  refine sr_k fun J5 hJ5 => ?_
  have g6 : (List.replicate 1 ([.int .u64 0, .int .i64 0, .int .i64 0, .int .i64 0, .int .i64 0] : List Value)).flatten = [.int .u64 0, .int .i64 0, .int .i64 0, .int .i64 0, .int .i64 0] := rfl
  have g7 : (⟨.lst, 5, [.sc (.int .u64 3), .sc (.int .i64 1), .sc (.int .i64 0), .sc (.int .i64 0), .sc (.int .i64 0)]⟩ : Root) = ⟨.lst, 5, encL c84 ([(⟨3, 1, 0, 0, 0⟩ : S84)] : List S84)⟩ := rfl
  have g8 : ([(⟨3, 1, 0, 0, 0⟩ : S84)] : List S84).length = 1 := rfl
  have g9 : (encL c84 ([(⟨3, 1, 0, 0, 0⟩ : S84)] : List S84)).length = 1 * 5 := by simp [encL_length c84_w]
  have g10 : (encL c84 ([(⟨3, 1, 0, 0, 0⟩ : S84)] : List S84)).all nd = true := rfl
  obtain ⟨b11, h⟩ := of_guard h
  have g12 : appLim l1.length 1 40 := ⟨b11, by have := b11; omega⟩
  have g13 : (encL c84 l1).length = l1.length * 5 := by simp [encL_length c84_w]
  have g14 : encL c84 l1 ++ encL c84 ([(⟨3, 1, 0, 0, 0⟩ : S84)] : List S84) = encL c84 (l1 ++ ([(⟨3, 1, 0, 0, 0⟩ : S84)] : List S84)) := (encL_append _ _).symm
  simp +decide only [reduceAdd, reduceMul, reduceToNat, ak, g6, g7, g8, g9, g10, g12, g13, g14]
  refine hJ5 _ ?_
  refine gh_k (Weak.mark [] [2] (by simp) (by simp)) ?_
  obtain rfl := Option.some.inj h
  refine hKr _ ⟨_, rfl, [], _, rfl, rfl, ?_⟩
  exact cl
 ·replace c4 := of_decide_eq_false c4; rw [if_neg c4] at h
  refine hJ2 _ ?_
  refine sr_k fun J15 hJ15 => ?_
  simp +decide only [reduceAdd, reduceMul, reduceToNat, ak]
  obtain ⟨t16, h17, h⟩ := of_bind h
  refine cm [pI (.arg 0) .box, pI (.arg 1) .fz] (spec_l1Next.tri (cs1) o1 l0_0 hv1 a0_1 a0_2 (l1.length : Int) _ h17) (fun hl17 => ?_)
  refine cs (mW [.ref (.arg 1) [] o1 l0_0.length, .sc (.int .i64 t16.2.1), .sc (.int .u64 t16.2.2)] (mF (mN ..))) ?_ (s4 := [(.arg 0, ⟨.box, 0, [.ref (.arg 1) [] o1 l0_0.length, .sc (.int .i64 t16.2.1), .sc (.int .u64 t16.2.2)]⟩), (.arg 1, ⟨.fz, 1, cs1⟩), (.arg 2, ⟨.lst, 5, encL c84 l1⟩), (.tmp 4 20, ⟨.lst, 5, encL c84 ([] : List S84)⟩)])
  simp +decide only [reduceAdd, reduceMul, reduceToNat, ak]
  refine hJ15 _ ?_
  obtain ⟨j19, h20, hn⟩ := of_bind h
  refine seq_j (fun st => st = ⟨[(1, .c (.ref (.arg 2) [] 0 j19.2.2.length))], [(.arg 0, ⟨.box, 0, [.ref (.arg 1) [] o1 l0_0.length, .sc (.int .i64 j19.1), .sc (.int .u64 j19.2.1)]⟩), (.arg 1, ⟨.fz, 1, cs1⟩), (.arg 2, ⟨.lst, 5, encL c84 j19.2.2⟩)], [], []⟩) (fun J21 hJ21 => ?_) ?_
  ·replace h := h20; clear hn
   refine ga_k fun G22 G22n G22r G22x => ?_
   refine sr_k fun J23 hJ23 => ?_
   simp +decide only [reduceAdd, reduceMul, reduceToNat, ak]
   obtain ⟨t24, h25, h⟩ := of_bind h
   refine cm [pI (.arg 0) .box, pI (.arg 1) .fz] (spec_l1Next.tri (cs1) o1 l0_0 hv1 t16.2.1 t16.2.2 9 _ h25) (fun hl25 => ?_)
   refine cs (mW [.ref (.arg 1) [] o1 l0_0.length, .sc (.int .i64 t24.2.1), .sc (.int .u64 t24.2.2)] (mF (mN ..))) ?_ (s4 := [(.arg 0, ⟨.box, 0, [.ref (.arg 1) [] o1 l0_0.length, .sc (.int .i64 t24.2.1), .sc (.int .u64 t24.2.2)]⟩), (.arg 1, ⟨.fz, 1, cs1⟩), (.arg 2, ⟨.lst, 5, encL c84 l1⟩), (.tmp 4 20, ⟨.lst, 5, encL c84 ([] : List S84)⟩)])
   simp +decide only [reduceAdd, reduceMul, reduceToNat, ak]
   refine hJ23 _ ?_
   refine block_k fun B27 B27n B27x B27r B27j => ?_
   refine sr_k fun J28 hJ28 => ?_
   simp +decide only [reduceAdd, reduceMul, reduceToNat, ak]
   refine hJ28 _ ?_
   refine cond_k (b := decide (t24.1 = 0)) rfl (fun c29 => ?_) (fun c29 => ?_)
   ·replace c29 := of_decide_eq_true c29; rw [if_pos c29] at h
    refine reg_k ?_
    obtain ⟨b30, h⟩ := of_guard h
    have g31 : 0 + t16.1.toNat * 5 + 3 ≤ (encL c84 l1).length := ((Vw.whole c84_w l1).len_le b30.1 b30.2 (by decide))
    have g32 : 0 + t16.1.toNat * 5 + 3 + 1 ≤ (encL c84 l1).length := (Vw.whole c84_w l1).le b30.1 b30.2 (j := 3) (q := 1) (by decide)
    have g33 : 0 + t16.1.toNat * 5 + 3 < (encL c84 l1).length := (Vw.whole c84_w l1).lt b30.1 b30.2 (j := 3) (by decide)
    have g34 : (encL c84 l1)[0 + t16.1.toNat * 5 + 3]? = some (.sc (.int .i64 ((rd z84 l1 t16.1).f3))) := (Vw.whole c84_w l1).get z84 3 b30.1 b30.2 (by decide)
    have g35 : (encL c84 l1).set (0 + t16.1.toNat * 5 + 3) (.sc (.int .i64 0)) = encL c84 (l1.set t16.1.toNat (⟨(rd z84 l1 t16.1).f0, (rd z84 l1 t16.1).f1, (rd z84 l1 t16.1).f2, 0, (rd z84 l1 t16.1).f4⟩ : S84)) := encL_put c84_w z84 b30.1 b30.2 (j := 3) (by decide) rfl
    simp +decide only [reduceAdd, reduceMul, reduceToNat, ak, b30, g31, g32, g33, g34, g35]
    refine B27n _ ?_
    obtain rfl := Option.some.inj h
    refine G22n _ _ (wj [1] [pI (.arg 0) .box, pI (.arg 1) .fz, pI (.arg 2) .lst]) (hJ21 _ rfl)
   ·replace c29 := of_decide_eq_false c29; rw [if_neg c29] at h
    refine sr_k fun J36 hJ36 => ?_
    simp +decide only [reduceAdd, reduceMul, reduceToNat, ak]
    refine hJ36 _ ?_
    refine cond_k (b := decide (t24.1 = 1)) rfl (fun c37 => ?_) (fun c37 => ?_)
    ·replace c37 := of_decide_eq_true c37; rw [if_pos c37] at h
     refine reg_k ?_
     obtain ⟨b38, h⟩ := of_guard h
     have g39 : 0 + t16.1.toNat * 5 + 3 ≤ (encL c84 l1).length := ((Vw.whole c84_w l1).len_le b38.1 b38.2 (by decide))
     have g40 : 0 + t16.1.toNat * 5 + 3 + 1 ≤ (encL c84 l1).length := (Vw.whole c84_w l1).le b38.1 b38.2 (j := 3) (q := 1) (by decide)
     have g41 : 0 + t16.1.toNat * 5 + 3 < (encL c84 l1).length := (Vw.whole c84_w l1).lt b38.1 b38.2 (j := 3) (by decide)
     have g42 : (encL c84 l1)[0 + t16.1.toNat * 5 + 3]? = some (.sc (.int .i64 ((rd z84 l1 t16.1).f3))) := (Vw.whole c84_w l1).get z84 3 b38.1 b38.2 (by decide)
     have g43 : (encL c84 l1).set (0 + t16.1.toNat * 5 + 3) (.sc (.int .i64 256)) = encL c84 (l1.set t16.1.toNat (⟨(rd z84 l1 t16.1).f0, (rd z84 l1 t16.1).f1, (rd z84 l1 t16.1).f2, 256, (rd z84 l1 t16.1).f4⟩ : S84)) := encL_put c84_w z84 b38.1 b38.2 (j := 3) (by decide) rfl
     simp +decide only [reduceAdd, reduceMul, reduceToNat, ak, b38, g39, g40, g41, g42, g43]
     refine B27n _ ?_
     obtain rfl := Option.some.inj h
     refine G22n _ _ (wj [1] [pI (.arg 0) .box, pI (.arg 1) .fz, pI (.arg 2) .lst]) (hJ21 _ rfl)
    ·replace c37 := of_decide_eq_false c37; rw [if_neg c37] at h
     refine sr_k fun J44 hJ44 => ?_
     simp +decide only [reduceAdd, reduceMul, reduceToNat, ak]
     refine hJ44 _ ?_
     refine cond_k (b := decide (t24.1 = 2)) rfl (fun c45 => ?_) (fun c45 => ?_)
     ·replace c45 := of_decide_eq_true c45; rw [if_pos c45] at h
      refine reg_k ?_
      obtain ⟨b46, h⟩ := of_guard h
      have g47 : 0 + t16.1.toNat * 5 + 4 ≤ (encL c84 l1).length := ((Vw.whole c84_w l1).len_le b46.1 b46.2 (by decide))
      have g48 : 0 + t16.1.toNat * 5 + 4 + 1 ≤ (encL c84 l1).length := (Vw.whole c84_w l1).le b46.1 b46.2 (j := 4) (q := 1) (by decide)
      have g49 : 0 + t16.1.toNat * 5 + 4 < (encL c84 l1).length := (Vw.whole c84_w l1).lt b46.1 b46.2 (j := 4) (by decide)
      have g50 : (encL c84 l1)[0 + t16.1.toNat * 5 + 4]? = some (.sc (.int .i64 ((rd z84 l1 t16.1).f4))) := (Vw.whole c84_w l1).get z84 4 b46.1 b46.2 (by decide)
      have g51 : (encL c84 l1).set (0 + t16.1.toNat * 5 + 4) (.sc (.int .i64 2)) = encL c84 (l1.set t16.1.toNat (⟨(rd z84 l1 t16.1).f0, (rd z84 l1 t16.1).f1, (rd z84 l1 t16.1).f2, (rd z84 l1 t16.1).f3, 2⟩ : S84)) := encL_put c84_w z84 b46.1 b46.2 (j := 4) (by decide) rfl
      simp +decide only [reduceAdd, reduceMul, reduceToNat, ak, b46, g47, g48, g49, g50, g51]
      refine B27n _ ?_
      obtain rfl := Option.some.inj h
      refine G22n _ _ (wj [1] [pI (.arg 0) .box, pI (.arg 1) .fz, pI (.arg 2) .lst]) (hJ21 _ rfl)
     ·replace c45 := of_decide_eq_false c45; rw [if_neg c45] at h
      refine sr_k fun J52 hJ52 => ?_
      simp +decide only [reduceAdd, reduceMul, reduceToNat, ak]
      refine hJ52 _ ?_
      refine cond_k (b := decide (t24.1 = 3)) rfl (fun c53 => ?_) (fun c53 => ?_)
      ·replace c53 := of_decide_eq_true c53; rw [if_pos c53] at h
       refine reg_k ?_
       obtain ⟨b54, h⟩ := of_guard h
       have g55 : 0 + t16.1.toNat * 5 + 1 ≤ (encL c84 l1).length := ((Vw.whole c84_w l1).len_le b54.1 b54.2 (by decide))
       have g56 : 0 + t16.1.toNat * 5 + 1 + 1 ≤ (encL c84 l1).length := (Vw.whole c84_w l1).le b54.1 b54.2 (j := 1) (q := 1) (by decide)
       have g57 : 0 + t16.1.toNat * 5 + 1 < (encL c84 l1).length := (Vw.whole c84_w l1).lt b54.1 b54.2 (j := 1) (by decide)
       have g58 : (encL c84 l1)[0 + t16.1.toNat * 5 + 1]? = some (.sc (.int .i64 ((rd z84 l1 t16.1).f1))) := (Vw.whole c84_w l1).get z84 1 b54.1 b54.2 (by decide)
       have g59 : (encL c84 l1).set (0 + t16.1.toNat * 5 + 1) (.sc (.int .i64 33)) = encL c84 (l1.set t16.1.toNat (⟨(rd z84 l1 t16.1).f0, 33, (rd z84 l1 t16.1).f2, (rd z84 l1 t16.1).f3, (rd z84 l1 t16.1).f4⟩ : S84)) := encL_put c84_w z84 b54.1 b54.2 (j := 1) (by decide) rfl
       simp +decide only [reduceAdd, reduceMul, reduceToNat, ak, b54, g55, g56, g57, g58, g59]
       refine B27n _ ?_
       obtain rfl := Option.some.inj h
       refine G22n _ _ (wj [1] [pI (.arg 0) .box, pI (.arg 1) .fz, pI (.arg 2) .lst]) (hJ21 _ rfl)
      ·replace c53 := of_decide_eq_false c53; rw [if_neg c53] at h
       refine sr_k fun J60 hJ60 => ?_
       simp +decide only [reduceAdd, reduceMul, reduceToNat, ak]
       refine hJ60 _ ?_
       refine cond_k (b := decide (t24.1 = 4)) rfl (fun c61 => ?_) (fun c61 => ?_)
       ·replace c61 := of_decide_eq_true c61; rw [if_pos c61] at h
        refine reg_k ?_
        obtain ⟨b62, h⟩ := of_guard h
        have g63 : 0 + t16.1.toNat * 5 + 2 ≤ (encL c84 l1).length := ((Vw.whole c84_w l1).len_le b62.1 b62.2 (by decide))
        have g64 : 0 + t16.1.toNat * 5 + 2 + 1 ≤ (encL c84 l1).length := (Vw.whole c84_w l1).le b62.1 b62.2 (j := 2) (q := 1) (by decide)
        have g65 : 0 + t16.1.toNat * 5 + 2 < (encL c84 l1).length := (Vw.whole c84_w l1).lt b62.1 b62.2 (j := 2) (by decide)
        have g66 : (encL c84 l1)[0 + t16.1.toNat * 5 + 2]? = some (.sc (.int .i64 ((rd z84 l1 t16.1).f2))) := (Vw.whole c84_w l1).get z84 2 b62.1 b62.2 (by decide)
        have g67 : (encL c84 l1).set (0 + t16.1.toNat * 5 + 2) (.sc (.int .i64 1)) = encL c84 (l1.set t16.1.toNat (⟨(rd z84 l1 t16.1).f0, (rd z84 l1 t16.1).f1, 1, (rd z84 l1 t16.1).f3, (rd z84 l1 t16.1).f4⟩ : S84)) := encL_put c84_w z84 b62.1 b62.2 (j := 2) (by decide) rfl
        simp +decide only [reduceAdd, reduceMul, reduceToNat, ak, b62, g63, g64, g65, g66, g67]
        refine B27n _ ?_
        obtain rfl := Option.some.inj h
        refine G22n _ _ (wj [1] [pI (.arg 0) .box, pI (.arg 1) .fz, pI (.arg 2) .lst]) (hJ21 _ rfl)
       ·replace c61 := of_decide_eq_false c61; rw [if_neg c61] at h
        refine sr_k fun J68 hJ68 => ?_
        simp +decide only [reduceAdd, reduceMul, reduceToNat, ak]
        refine hJ68 _ ?_
        refine cond_k (b := decide (t24.1 = 5)) rfl (fun c69 => ?_) (fun c69 => ?_)
        ·replace c69 := of_decide_eq_true c69; rw [if_pos c69] at h
         refine reg_k ?_
         obtain ⟨b70, h⟩ := of_guard h
         have g71 : 0 + t16.1.toNat * 5 + 0 ≤ (encL c84 l1).length := ((Vw.whole c84_w l1).len_le b70.1 b70.2 (by decide))
         have g72 : 0 + t16.1.toNat * 5 + 0 + 1 ≤ (encL c84 l1).length := (Vw.whole c84_w l1).le b70.1 b70.2 (j := 0) (q := 1) (by decide)
         have g73 : 0 + t16.1.toNat * 5 + 0 < (encL c84 l1).length := (Vw.whole c84_w l1).lt b70.1 b70.2 (j := 0) (by decide)
         have g74 : (encL c84 l1)[0 + t16.1.toNat * 5 + 0]? = some (.sc (.int .u64 ((rd z84 l1 t16.1).f0))) := (Vw.whole c84_w l1).get z84 0 b70.1 b70.2 (by decide)
         have g75 : (encL c84 l1).set (0 + t16.1.toNat * 5 + 0) (.sc (.int .u64 4611686018427387905)) = encL c84 (l1.set t16.1.toNat (⟨4611686018427387905, (rd z84 l1 t16.1).f1, (rd z84 l1 t16.1).f2, (rd z84 l1 t16.1).f3, (rd z84 l1 t16.1).f4⟩ : S84)) := encL_put c84_w z84 b70.1 b70.2 (j := 0) (by decide) rfl
         simp +decide only [reduceAdd, reduceMul, reduceToNat, ak, b70, g71, g72, g73, g74, g75]
         refine B27n _ ?_
         obtain rfl := Option.some.inj h
         refine G22n _ _ (wj [1] [pI (.arg 0) .box, pI (.arg 1) .fz, pI (.arg 2) .lst]) (hJ21 _ rfl)
        ·replace c69 := of_decide_eq_false c69; rw [if_neg c69] at h
         refine sr_k fun J76 hJ76 => ?_
         simp +decide only [reduceAdd, reduceMul, reduceToNat, ak]
         refine hJ76 _ ?_
         refine cond_k (b := decide (t24.1 = 6)) rfl (fun c77 => ?_) (fun c77 => ?_)
         ·replace c77 := of_decide_eq_true c77; rw [if_pos c77] at h
          refine reg_k ?_
          obtain ⟨b78, h⟩ := of_guard h
          have g79 : 0 + t16.1.toNat * 5 + 0 ≤ (encL c84 l1).length := ((Vw.whole c84_w l1).len_le b78.1 b78.2 (by decide))
          have g80 : (encL c84 l1)[0 + t16.1.toNat * 5 + 0]? = some (.sc (.int .u64 ((rd z84 l1 t16.1).f0))) := (Vw.whole c84_w l1).get z84 0 b78.1 b78.2 (by decide)
          have g81 : 0 + t16.1.toNat * 5 + 0 + 1 ≤ (encL c84 l1).length := (Vw.whole c84_w l1).le b78.1 b78.2 (j := 0) (q := 1) (by decide)
          have g82 : 0 + t16.1.toNat * 5 + 0 < (encL c84 l1).length := (Vw.whole c84_w l1).lt b78.1 b78.2 (j := 0) (by decide)
          have g83 : (encL c84 l1).set (0 + t16.1.toNat * 5 + 0) (.sc (.int .u64 (IntKind.u64.wrap (((rd z84 l1 t16.1).f0) - 1)))) = encL c84 (l1.set t16.1.toNat (⟨IntKind.u64.wrap (((rd z84 l1 t16.1).f0) - 1), (rd z84 l1 t16.1).f1, (rd z84 l1 t16.1).f2, (rd z84 l1 t16.1).f3, (rd z84 l1 t16.1).f4⟩ : S84)) := encL_put c84_w z84 b78.1 b78.2 (j := 0) (by decide) rfl
          simp +decide only [reduceAdd, reduceMul, reduceToNat, ak, b78, g79, g80, g81, g82, g83]
          refine B27n _ ?_
          obtain rfl := Option.some.inj h
          refine G22n _ _ (wj [1] [pI (.arg 0) .box, pI (.arg 1) .fz, pI (.arg 2) .lst]) (hJ21 _ rfl)
         ·replace c77 := of_decide_eq_false c77; rw [if_neg c77] at h
          refine sr_k fun J84 hJ84 => ?_
          simp +decide only [reduceAdd, reduceMul, reduceToNat, ak]
          refine hJ84 _ ?_
          refine cond_k (b := decide (t24.1 = 7)) rfl (fun c85 => ?_) (fun c85 => ?_)
          ·replace c85 := of_decide_eq_true c85; rw [if_pos c85] at h
           refine reg_k ?_
           obtain ⟨b86, h⟩ := of_guard h
           have g87 : 0 + t16.1.toNat * 5 + 1 ≤ (encL c84 l1).length := ((Vw.whole c84_w l1).len_le b86.1 b86.2 (by decide))
           have g88 : 0 + t16.1.toNat * 5 + 1 + 1 ≤ (encL c84 l1).length := (Vw.whole c84_w l1).le b86.1 b86.2 (j := 1) (q := 1) (by decide)
           have g89 : 0 + t16.1.toNat * 5 + 1 < (encL c84 l1).length := (Vw.whole c84_w l1).lt b86.1 b86.2 (j := 1) (by decide)
           have g90 : (encL c84 l1)[0 + t16.1.toNat * 5 + 1]? = some (.sc (.int .i64 ((rd z84 l1 t16.1).f1))) := (Vw.whole c84_w l1).get z84 1 b86.1 b86.2 (by decide)
           have g91 : (encL c84 l1).set (0 + t16.1.toNat * 5 + 1) (.sc (.int .i64 (-1))) = encL c84 (l1.set t16.1.toNat (⟨(rd z84 l1 t16.1).f0, (-1), (rd z84 l1 t16.1).f2, (rd z84 l1 t16.1).f3, (rd z84 l1 t16.1).f4⟩ : S84)) := encL_put c84_w z84 b86.1 b86.2 (j := 1) (by decide) rfl
           simp +decide only [reduceAdd, reduceMul, reduceToNat, ak, b86, g87, g88, g89, g90, g91]
           refine B27n _ ?_
           obtain rfl := Option.some.inj h
           refine G22n _ _ (wj [1] [pI (.arg 0) .box, pI (.arg 1) .fz, pI (.arg 2) .lst]) (hJ21 _ rfl)
          ·replace c85 := of_decide_eq_false c85; rw [if_neg c85] at h
           refine sr_k fun J92 hJ92 => ?_
           simp +decide only [reduceAdd, reduceMul, reduceToNat, ak]
           refine hJ92 _ ?_
           refine cond_k (b := decide (t24.1 = 8)) rfl (fun c93 => ?_) (fun c93 => ?_)
           ·replace c93 := of_decide_eq_true c93; rw [if_pos c93] at h
            refine reg_k ?_
            obtain ⟨b94, h⟩ := of_guard h
            have g95 : 0 + t16.1.toNat * 5 + 2 ≤ (encL c84 l1).length := ((Vw.whole c84_w l1).len_le b94.1 b94.2 (by decide))
            have g96 : 0 + t16.1.toNat * 5 + 2 + 1 ≤ (encL c84 l1).length := (Vw.whole c84_w l1).le b94.1 b94.2 (j := 2) (q := 1) (by decide)
            have g97 : 0 + t16.1.toNat * 5 + 2 < (encL c84 l1).length := (Vw.whole c84_w l1).lt b94.1 b94.2 (j := 2) (by decide)
            have g98 : (encL c84 l1)[0 + t16.1.toNat * 5 + 2]? = some (.sc (.int .i64 ((rd z84 l1 t16.1).f2))) := (Vw.whole c84_w l1).get z84 2 b94.1 b94.2 (by decide)
            have g99 : (encL c84 l1).set (0 + t16.1.toNat * 5 + 2) (.sc (.int .i64 (-1))) = encL c84 (l1.set t16.1.toNat (⟨(rd z84 l1 t16.1).f0, (rd z84 l1 t16.1).f1, (-1), (rd z84 l1 t16.1).f3, (rd z84 l1 t16.1).f4⟩ : S84)) := encL_put c84_w z84 b94.1 b94.2 (j := 2) (by decide) rfl
            simp +decide only [reduceAdd, reduceMul, reduceToNat, ak, b94, g95, g96, g97, g98, g99]
            refine B27n _ ?_
            obtain rfl := Option.some.inj h
            refine G22n _ _ (wj [1] [pI (.arg 0) .box, pI (.arg 1) .fz, pI (.arg 2) .lst]) (hJ21 _ rfl)
           ·replace c93 := of_decide_eq_false c93; rw [if_neg c93] at h
            refine B27n _ ?_
            obtain rfl := Option.some.inj h
            refine G22n _ _ (wk [1] [pI (.arg 0) .box, pI (.arg 1) .fz, pI (.arg 2) .lst]) (hJ21 _ rfl)
  ·replace h := hn; clear hn h20
   rintro _ rfl
   refine sr_k fun J100 hJ100 => ?_
   simp +decide only [reduceAdd, reduceMul, reduceToNat, ak]
   refine hJ100 _ ?_
   refine gh_k (Weak.mark [] [2] (by simp) (by simp)) ?_
   obtain rfl := Option.some.inj h
   refine hKr _ ⟨_, rfl, [], _, rfl, rfl, ?_⟩
   exact cl
/-! ### spec.DrawPlanSend: function 54 -/
def C54_l0 : AC := .seq (.sr [.m 26 6, .m 27 5, .o (.bin 28 .lss (.t 26) (.t 27)), .keep [2, 3, 4, 5, 6, 28]] (.cond (.t 28) (.skip) (.gh (.exit 0)))) (.seq (.block 1 (.regD (.f (.fa 31 2 4) (.pin [6, 5, 4] (.ld 32 1 31) (.alt (.call none (some 33) 92 [.tmp 3, .const (.int .i64 10)]) none (.alt (.o (.bslice 34 1 [.int .i64 0] 1 [(0, .tmp 33)])) none (.alt (.o (.app 35 1 8 false (.t 32) (.t 34))) (some 4) (.f (.fa 36 2 4) (.alt (.st 1 36 35) none (.done) (.stop))) (.stop)) (.stop)) (.stop)))) [2, 3, 4, 5, 6])) (.reg [.m 29 6, .o (.bin 30 .add (.t 29) (.k 1)), .m 6 30, .keep [2, 3, 4, 5, 6]]))
def C54_l1 : AC := .seq (.sr [.m 39 7, .fa 40 4 4, .ld 41 1 40, .ln 42 41, .o (.bin 43 .lss (.t 39) (.t 42)), .keep [2, 3, 4, 7, 43]] (.cond (.t 43) (.skip) (.gh (.exit 2)))) (.seq (.block 3 (.reg [.fa 46 4 4, .ld 47 1 46, .m 48 7, .ia 49 5 47 48, .fa 50 4 49, .o (.store 1 (.t 50) (.k 0)), .keep [2, 3, 4, 7]])) (.reg [.m 44 7, .o (.bin 45 .add (.t 44) (.k 1)), .m 7 45, .keep [2, 3, 4, 7]]))
def C54_l2 : AC := .seq (.sr [.fa 149 2 4, .ld 150 1 149, .ln 151 150, .o (.bin 152 .lss (.t 151) (.k 1000)), .keep [2, 3, 4, 152]] (.cond (.t 152) (.skip) (.gh (.exit 5)))) (.block 6 (.reg [.fa 153 2 4, .ld 154 1 153, .o (.bslice 155 1 [.int .i64 0] 1 [(0, .const (.int .i64 1))]), .o (.app 156 1 8 true (.t 154) (.t 155)), .fa 157 2 4, .st 1 157 156, .keep [2, 3, 4]]))
def C54 : AC := .sr [.o (.alloc 2 [.int .i64 0, .int .i64 0, .slice none 0 0, .slice none 0 0, .slice none 0 0, .int .i64 0, .int .u64 0, .int .u64 0, .int .u64 0, .int .i64 0, .int .i64 0, .int .i64 0]), .gh, .keep [0, 2]] (.sr [.m 9 0, .call none (some 10) 91 [.tmp 9], .o (.alloc 3 [.slice none 0 0, .int .i64 0, .int .u64 0]), .gh, .st 3 3 10, .keep [2, 3]] (.sr [.call none (some 11) 92 [.tmp 3, .const (.int .i64 4)], .o (.bin 12 .add (.k 1) (.t 11)), .call none (some 13) 93 [.tmp 3], .call none (some 14) 94 [.tmp 3, .const (.int .i64 6)], .call none (some 15) 92 [.tmp 3, .const (.int .i64 12)], .o (.bin 16 .add (.k 1) (.t 15)), .call none (some 17) 92 [.tmp 3, .const (.int .i64 32)], .o (.bin 18 .add (.k 1) (.t 17)), .o (.build 19 [.int .i64 0, .int .i64 0, .slice none 0 0, .slice none 0 0, .slice none 0 0, .int .i64 0, .int .u64 0, .int .u64 0, .int .u64 0, .int .i64 0, .int .i64 0, .int .i64 0] [(0, 1, .tmp 12), (3, 1, .tmp 13), (4, 1, .tmp 14), (5, 1, .tmp 16), (11, 1, .tmp 18)]), .gh, .o (.alloc 4 [.int .i64 0, .int .i64 0, .slice none 0 0, .slice none 0 0, .slice none 0 0, .int .i64 0, .int .u64 0, .int .u64 0, .int .u64 0, .int .i64 0, .int .i64 0, .int .i64 0]), .gh, .st 12 4 19, .keep [2, 3, 4]] (.sr [.fa 20 3 4, .ld 21 1 20, .ln 22 21, .call none (some 23) 92 [.tmp 3, .tmp 22], .fa 24 1 4, .st 1 24 23, .keep [2, 3, 4]] (.sr [.call none (some 25) 92 [.tmp 3, .const (.int .i64 4)], .m 5 25, .keep [2, 3, 4, 5]] (.seq (.sr [.o (.mv 6 (.k 0)), .keep [2, 3, 4, 5, 6]] (.block 0 (.gh (.loop (.ga C54_l0))))) (.seq (.ga (.sr [.call none (some 37) 92 [.tmp 3, .const (.int .i64 2)], .o (.bin 38 .eql (.t 37) (.k 0)), .keep [2, 3, 4, 38]] (.cond (.t 38) (.sr [.o (.mv 7 (.k 0)), .keep [2, 3, 4, 7]] (.block 2 (.gh (.loop (.ga C54_l1))))) (.skip)))) (.seq (.ga (.seq (.ga (.reg [.fa 51 4 4, .ld 52 1 51, .ln 53 52, .fa 54 5 4, .ld 55 1 54, .o (.bin 56 .gtr (.t 53) (.t 55)), .m 57 56, .call (some (57, true)) (some 58) 92 [.tmp 3, .const (.int .i64 6)], .op (some (57, true)) (.bin 59 .gtr (.t 58) (.k 0)), .o (.pick 60 (.t 57) (.t 59) (.const (.bool false))), .keep [2, 3, 4, 60]])) (.cond (.t 60) (.seq (.regD (.f (.fa 61 4 4) (.pin [6, 5, 4, 2] (.ld 62 1 61) (.pin [6, 5, 4] (.ln 63 62) (.alt (.call none (some 64) 92 [.tmp 3, .const (.int .i64 3)]) none (.pin [6, 5] (.o (.bin 65 .add (.t 63) (.t 64))) (.pin [6] (.fa 66 5 4) (.alt (.st 1 66 65) (some 6) (.done) (.stop)))) (.stop))))) [2, 3, 4]) (.sr [.fa 67 5 4, .ld 68 1 67, .o (.bin 69 .eql (.t 68) (.k 0)), .keep [2, 3, 4, 69]] (.cond (.t 69) (.reg [.fa 70 5 4, .o (.store 1 (.t 70) (.k 1)), .keep [2, 3, 4]]) (.skip)))) (.skip)))) (.seq (.ga (.sr [.fa 71 4 4, .ld 72 1 71, .ln 73 72, .o (.bin 74 .gtr (.t 73) (.k 0)), .keep [2, 3, 4, 74]] (.cond (.t 74) (.sr [.fa 75 4 4, .ld 76 1 75, .fa 77 4 4, .ld 78 1 77, .ln 79 78, .o (.bin 80 .sub (.t 79) (.k 1)), .ia 81 5 76 80, .o (.load 82 true 5 (.t 81)), .o (.alloc 8 [.int .u64 0, .int .i64 0, .int .i64 0, .int .i64 0, .int .i64 0]), .st 5 8 82, .keep [2, 3, 4, 8]] (.sr [.fa 83 0 8, .ld 84 1 83, .fa 85 1 8, .ld 86 1 85, .o (.conv 87 .u64 (.t 86)), .o (.bin 88 .add (.t 84) (.t 87)), .fa 89 6 4, .st 1 89 88, .keep [2, 3, 4, 8]] (.reg [.fa 90 2 8, .ld 91 1 90, .fa 92 10 4, .st 1 92 91, .keep [2, 3, 4]]))) (.skip)))) (.seq (.regD (.f (.fa 93 6 4) (.pin [8, 7, 6] (.ld 94 1 93) (.alt (.call none (some 95) 92 [.tmp 3, .const (.int .i64 3)]) none (.alt (.call none (some 96) 92 [.tmp 3, .const (.int .i64 40)]) none (.f (.o (.bin 97 .mul (.t 95) (.t 96))) (.f (.o (.conv 98 .u64 (.t 97))) (.pin [8, 7] (.o (.bin 99 .add (.t 94) (.t 98))) (.pin [8] (.fa 100 7 4) (.alt (.st 1 100 99) (some 8) (.done) (.stop)))))) (.stop)) (.stop)))) [2, 3, 4]) (.seq (.regD (.f (.fa 101 6 4) (.pin [8, 7, 6] (.ld 102 1 101) (.alt (.call none (some 103) 92 [.tmp 3, .const (.int .i64 3)]) none (.alt (.call none (some 104) 92 [.tmp 3, .const (.int .i64 40)]) none (.f (.o (.bin 105 .mul (.t 103) (.t 104))) (.f (.o (.conv 106 .u64 (.t 105))) (.pin [8, 7] (.o (.bin 107 .add (.t 102) (.t 106))) (.pin [8] (.fa 108 8 4) (.alt (.st 1 108 107) (some 8) (.done) (.stop)))))) (.stop)) (.stop)))) [2, 3, 4]) (.sr [.call none (some 109) 92 [.tmp 3, .const (.int .i64 2)], .fa 110 9 4, .st 1 110 109, .keep [2, 3, 4]] (.seq (.ga (.sr [.call none (some 111) 92 [.tmp 3, .const (.int .i64 40)], .keep [2, 3, 4, 111]] (.block 4 (.sr [.o (.bin 113 .eql (.t 111) (.k 0)), .m 112 113, .keep [2, 3, 4, 111, 112]] (.cond (.t 112) (.reg [.call none (some 114) 92 [.tmp 3, .const (.int .i64 2)], .o (.bin 115 .mul (.k 5) (.t 114)), .fa 116 0 4, .st 1 116 115, .keep [2, 4]]) (.sr [.o (.bin 118 .eql (.t 111) (.k 1)), .m 117 118, .keep [2, 3, 4, 111, 117]] (.cond (.t 117) (.reg [.fa 119 3 4, .ld 120 1 119, .ln 121 120, .fa 122 1 4, .st 1 122 121, .keep [2, 4]]) (.sr [.o (.bin 124 .eql (.t 111) (.k 2)), .m 123 124, .keep [2, 3, 4, 111, 123]] (.cond (.t 123) (.reg [.fa 125 5 4, .o (.store 1 (.t 125) (.k 257)), .keep [2, 4]]) (.sr [.o (.bin 127 .eql (.t 111) (.k 3)), .m 126 127, .keep [2, 3, 4, 111, 126]] (.cond (.t 126) (.reg [.fa 128 11 4, .o (.store 1 (.t 128) (.k 0)), .keep [2, 4]]) (.sr [.o (.bin 130 .eql (.t 111) (.k 4)), .m 129 130, .keep [2, 3, 4, 111, 129]] (.cond (.t 129) (.reg [.fa 131 6 4, .ld 132 1 131, .o (.bin 133 .sub (.t 132) (.const (.int .u64 1))), .fa 134 7 4, .st 1 134 133, .keep [2, 4]]) (.sr [.o (.bin 136 .eql (.t 111) (.k 5)), .m 135 136, .keep [2, 3, 4, 111, 135]] (.cond (.t 135) (.reg [.fa 137 8 4, .o (.store 1 (.t 137) (.const (.int .u64 4611686018427387905))), .keep [2, 4]]) (.sr [.o (.bin 139 .eql (.t 111) (.k 6)), .m 138 139, .keep [2, 3, 4, 111, 138]] (.cond (.t 138) (.reg [.fa 140 9 4, .o (.store 1 (.t 140) (.k 2)), .keep [2, 4]]) (.sr [.o (.bin 142 .eql (.t 111) (.k 7)), .m 141 142, .keep [2, 3, 4, 111, 141]] (.cond (.t 141) (.reg [.fa 143 4 4, .ld 144 1 143, .gh, .call none (some 145) 95 [.tmp 3, .tmp 144], .fa 146 4 4, .st 1 146 145, .keep [2, 4]]) (.sr [.o (.bin 148 .eql (.t 111) (.k 8)), .m 147 148, .keep [2, 3, 4, 111, 147]] (.cond (.t 147) (.seq (.block 5 (.gh (.loop (.ga C54_l2)))) (.sr [.call none (some 158) 92 [.tmp 3, .const (.int .i64 2)], .o (.bin 159 .eql (.t 158) (.k 0)), .keep [2, 4, 159]] (.cond (.t 159) (.reg [.fa 160 2 4, .ld 161 1 160, .o (.bslice 162 1 [.int .i64 0] 1 [(0, .const (.int .i64 1))]), .o (.app 163 1 8 true (.t 161) (.t 162)), .fa 164 2 4, .st 1 164 163, .keep [2, 4]]) (.skip)))) (.sr [.o (.bin 166 .eql (.t 111) (.k 9)), .m 165 166, .keep [2, 4, 165]] (.cond (.t 165) (.reg [.fa 167 5 4, .o (.store 1 (.t 167) (.k 0)), .keep [2, 4]]) (.skip)))))))))))))))))))))))) (.sr [.o (.load 168 true 12 (.t 4)), .st 12 2 168, .keep [2]] (.ret))))))))))))))
def r54 : List RV := [.cell 2 true 12]
theorem k54 : compC Try.prog 169 C54 (Try.f54.body.getD .skip) = some C54.erase := by kernel_rfl
theorem q54 : rvsOf Try.prog Try.f54.results.toList = some r54 := by kernel_rfl
def spec_DrawPlanSend.l0 (l0 : List Int) (x0_0 : Int) (x0_2 : Int) (x0_3 : Int) (x0_4 : (List Int)) (x0_5 : (List S86)) (x0_6 : (List S84)) (x0_7 : Int) (x0_8 : Int) (x0_9 : Int) (x0_10 : Int) (x0_11 : Int) (x0_12 : Int) (x0_13 : Int) (x0_16 : Int) (x0_17 : Int) (x0_19 : (List S86)) (x0_20 : (List S84)) (x0_21 : Int) (x0_22 : Int) (x0_23 : Int) (x0_24 : Int) (x0_25 : Int) (x0_26 : Int) (x0_27 : Int) (x0_1 : Int) (x0_14 : Int) (x0_15 : Int) (x0_18 : (List Int)) : Option (Int × Int × (List Int)) := (if x0_1 < x0_0 then (spec_l1Next.f l0 x0_14 x0_15 10 >>= fun t41 => (if (x0_18.length + 1) * 8 ≤ 140737488355328 then (spec_DrawPlanSend.l0 l0 x0_0 x0_2 x0_3 x0_4 x0_5 x0_6 x0_7 x0_8 x0_9 x0_10 x0_11 x0_12 x0_13 x0_16 x0_17 x0_19 x0_20 x0_21 x0_22 x0_23 x0_24 x0_25 x0_26 x0_27 (IntKind.i64.wrap (x0_1 + 1)) t41.2.1 t41.2.2 (x0_18 ++ ([t41.1] : List Int))) else none)) else (some (x0_14, x0_15, x0_18)))
 partial_fixpoint
def spec_DrawPlanSend.l1 (x1_1 : Int) (x1_2 : Int) (x1_3 : (List Int)) (x1_4 : (List S86)) (x1_5 : (List S84)) (x1_6 : Int) (x1_7 : Int) (x1_8 : Int) (x1_9 : Int) (x1_10 : Int) (x1_11 : Int) (x1_12 : Int) (x1_13 : Int) (x1_14 : Int) (x1_15 : Int) (x1_16 : Int) (x1_17 : (List Int)) (x1_18 : (List S86)) (x1_20 : Int) (x1_21 : Int) (x1_22 : Int) (x1_23 : Int) (x1_24 : Int) (x1_25 : Int) (x1_26 : Int) (x1_0 : Int) (x1_19 : (List S84)) : Option (List S84) := (if x1_0 < (x1_19.length : Int) then (if 0 ≤ x1_0 ∧ x1_0 < (x1_19.length : Int) then (spec_DrawPlanSend.l1 x1_1 x1_2 x1_3 x1_4 x1_5 x1_6 x1_7 x1_8 x1_9 x1_10 x1_11 x1_12 x1_13 x1_14 x1_15 x1_16 x1_17 x1_18 x1_20 x1_21 x1_22 x1_23 x1_24 x1_25 x1_26 (IntKind.i64.wrap (x1_0 + 1)) (x1_19.set x1_0.toNat (⟨(rd z84 x1_19 x1_0).f0, (rd z84 x1_19 x1_0).f1, (rd z84 x1_19 x1_0).f2, (rd z84 x1_19 x1_0).f3, 0⟩ : S84))) else none) else (some x1_19))
 partial_fixpoint
def spec_DrawPlanSend.l2 (x2_0 : Int) (x2_1 : Int) (x2_2 : (List Int)) (x2_3 : (List S86)) (x2_4 : (List S84)) (x2_5 : Int) (x2_6 : Int) (x2_7 : Int) (x2_8 : Int) (x2_9 : Int) (x2_10 : Int) (x2_11 : Int) (x2_12 : Int) (x2_13 : Int) (x2_14 : Int) (x2_15 : Int) (x2_17 : (List S86)) (x2_18 : (List S84)) (x2_19 : Int) (x2_20 : Int) (x2_21 : Int) (x2_22 : Int) (x2_23 : Int) (x2_24 : Int) (x2_25 : Int) (x2_16 : (List Int)) : Option (List Int) := (if (x2_16.length : Int) < 1000 then (if (x2_16.length + 1) * 8 ≤ 140737488355328 then (spec_DrawPlanSend.l2 x2_0 x2_1 x2_2 x2_3 x2_4 x2_5 x2_6 x2_7 x2_8 x2_9 x2_10 x2_11 x2_12 x2_13 x2_14 x2_15 x2_17 x2_18 x2_19 x2_20 x2_21 x2_22 x2_23 x2_24 x2_25 (x2_16 ++ ([1] : List Int))) else none) else (some x2_16))
 partial_fixpoint
def spec_DrawPlanSend.f (l0 : List Int) : Option (Int × Int × (List Int) × (List S86) × (List S84) × Int × Int × Int × Int × Int × Int × Int) := (spec_l1Begin.f l0 >>= fun t3 => (spec_l1Next.f l0 t3.1 t3.2 4 >>= fun t7 => (spec_l6DrawPaths.f l0 t7.2.1 t7.2.2 >>= fun t10 => (spec_l6DrawMaps.f l0 t10.2.1 t10.2.2 6 >>= fun t13 => (spec_l1Next.f l0 t13.2.1 t13.2.2 12 >>= fun t16 => (spec_l1Next.f l0 t16.2.1 t16.2.2 32 >>= fun t19 => (spec_l1Next.f l0 t19.2.1 t19.2.2 (t10.1.length : Int) >>= fun t26 => (spec_l1Next.f l0 t26.2.1 t26.2.2 4 >>= fun t30 => (spec_DrawPlanSend.l0 l0 t30.1 0 0 ([] : List Int) ([] : List S86) ([] : List S84) 0 0 0 0 0 0 0 (IntKind.i64.wrap (1 + t7.1)) t26.1 t10.1 t13.1 (IntKind.i64.wrap (1 + t16.1)) 0 0 0 0 0 (IntKind.i64.wrap (1 + t19.1)) 0 t30.2.1 t30.2.2 ([] : List Int) >>= fun (y114 : (Int × Int × (List Int))) => ((spec_l1Next.f l0 y114.1 y114.2.1 2 >>= fun t121 => (if t121.1 = 0 then (spec_DrawPlanSend.l1 0 0 ([] : List Int) ([] : List S86) ([] : List S84) 0 0 0 0 0 0 0 t121.2.1 t121.2.2 (IntKind.i64.wrap (1 + t7.1)) t26.1 y114.2.2 t10.1 (IntKind.i64.wrap (1 + t16.1)) 0 0 0 0 0 (IntKind.i64.wrap (1 + t19.1)) 0 t13.1 >>= fun (y138 : (List S84)) => (some (t121.2.1, t121.2.2, y138))) else (some (t121.2.1, t121.2.2, t13.1)))) >>= fun (j116 : Int × Int × (List S84)) => (((if (j116.2.2.length : Int) > IntKind.i64.wrap (1 + t16.1) then (spec_l1Next.f l0 j116.1 j116.2.1 6 >>= fun t150 => (some (decide (t150.1 > 0), t150.2.1, t150.2.2))) else (some (false, j116.1, j116.2.1))) >>= fun (j144 : Bool × Int × Int) => (if j144.1 = true then (spec_l1Next.f l0 j144.2.1 j144.2.2 3 >>= fun t156 => (if IntKind.i64.wrap ((j116.2.2.length : Int) + t156.1) = 0 then (some (t156.2.1, t156.2.2, 1)) else (some (t156.2.1, t156.2.2, IntKind.i64.wrap ((j116.2.2.length : Int) + t156.1))))) else (some (j144.2.1, j144.2.2, IntKind.i64.wrap (1 + t16.1))))) >>= fun (j140 : Int × Int × Int) => ((if (j116.2.2.length : Int) > 0 then (if 0 ≤ IntKind.i64.wrap ((j116.2.2.length : Int) - 1) ∧ IntKind.i64.wrap ((j116.2.2.length : Int) - 1) < (j116.2.2.length : Int) then (some (IntKind.u64.wrap (((rd z84 j116.2.2 (IntKind.i64.wrap ((j116.2.2.length : Int) - 1))).f0) + (IntKind.u64.wrap ((rd z84 j116.2.2 (IntKind.i64.wrap ((j116.2.2.length : Int) - 1))).f1))), (rd z84 j116.2.2 (IntKind.i64.wrap ((j116.2.2.length : Int) - 1))).f2)) else none) else (some (0, 0))) >>= fun (j162 : Int × Int) => (spec_l1Next.f l0 j140.1 j140.2.1 3 >>= fun t173 => (spec_l1Next.f l0 t173.2.1 t173.2.2 40 >>= fun t176 => (spec_l1Next.f l0 t176.2.1 t176.2.2 3 >>= fun t184 => (spec_l1Next.f l0 t184.2.1 t184.2.2 40 >>= fun t187 => (spec_l1Next.f l0 t187.2.1 t187.2.2 2 >>= fun t195 => ((spec_l1Next.f l0 t195.2.1 t195.2.2 40 >>= fun t203 => (if t203.1 = 0 then (spec_l1Next.f l0 t203.2.1 t203.2.2 2 >>= fun t209 => (some (IntKind.i64.wrap (5 * t209.1), t26.1, y114.2.2, j116.2.2, j140.2.2, IntKind.u64.wrap (j162.1 + (IntKind.u64.wrap (IntKind.i64.wrap (t173.1 * t176.1)))), IntKind.u64.wrap (j162.1 + (IntKind.u64.wrap (IntKind.i64.wrap (t184.1 * t187.1)))), t195.1, IntKind.i64.wrap (1 + t19.1)))) else (if t203.1 = 1 then (some (IntKind.i64.wrap (1 + t7.1), (t10.1.length : Int), y114.2.2, j116.2.2, j140.2.2, IntKind.u64.wrap (j162.1 + (IntKind.u64.wrap (IntKind.i64.wrap (t173.1 * t176.1)))), IntKind.u64.wrap (j162.1 + (IntKind.u64.wrap (IntKind.i64.wrap (t184.1 * t187.1)))), t195.1, IntKind.i64.wrap (1 + t19.1))) else (if t203.1 = 2 then (some (IntKind.i64.wrap (1 + t7.1), t26.1, y114.2.2, j116.2.2, 257, IntKind.u64.wrap (j162.1 + (IntKind.u64.wrap (IntKind.i64.wrap (t173.1 * t176.1)))), IntKind.u64.wrap (j162.1 + (IntKind.u64.wrap (IntKind.i64.wrap (t184.1 * t187.1)))), t195.1, IntKind.i64.wrap (1 + t19.1))) else (if t203.1 = 3 then (some (IntKind.i64.wrap (1 + t7.1), t26.1, y114.2.2, j116.2.2, j140.2.2, IntKind.u64.wrap (j162.1 + (IntKind.u64.wrap (IntKind.i64.wrap (t173.1 * t176.1)))), IntKind.u64.wrap (j162.1 + (IntKind.u64.wrap (IntKind.i64.wrap (t184.1 * t187.1)))), t195.1, 0)) else (if t203.1 = 4 then (some (IntKind.i64.wrap (1 + t7.1), t26.1, y114.2.2, j116.2.2, j140.2.2, IntKind.u64.wrap (j162.1 - 1), IntKind.u64.wrap (j162.1 + (IntKind.u64.wrap (IntKind.i64.wrap (t184.1 * t187.1)))), t195.1, IntKind.i64.wrap (1 + t19.1))) else (if t203.1 = 5 then (some (IntKind.i64.wrap (1 + t7.1), t26.1, y114.2.2, j116.2.2, j140.2.2, IntKind.u64.wrap (j162.1 + (IntKind.u64.wrap (IntKind.i64.wrap (t173.1 * t176.1)))), 4611686018427387905, t195.1, IntKind.i64.wrap (1 + t19.1))) else (if t203.1 = 6 then (some (IntKind.i64.wrap (1 + t7.1), t26.1, y114.2.2, j116.2.2, j140.2.2, IntKind.u64.wrap (j162.1 + (IntKind.u64.wrap (IntKind.i64.wrap (t173.1 * t176.1)))), IntKind.u64.wrap (j162.1 + (IntKind.u64.wrap (IntKind.i64.wrap (t184.1 * t187.1)))), 2, IntKind.i64.wrap (1 + t19.1))) else (if t203.1 = 7 then (spec_l6SpoilMaps.f l0 t203.2.1 t203.2.2 j116.2.2 >>= fun t227 => (some (IntKind.i64.wrap (1 + t7.1), t26.1, y114.2.2, t227.2.2, j140.2.2, IntKind.u64.wrap (j162.1 + (IntKind.u64.wrap (IntKind.i64.wrap (t173.1 * t176.1)))), IntKind.u64.wrap (j162.1 + (IntKind.u64.wrap (IntKind.i64.wrap (t184.1 * t187.1)))), t195.1, IntKind.i64.wrap (1 + t19.1)))) else (if t203.1 = 8 then (spec_DrawPlanSend.l2 0 0 ([] : List Int) ([] : List S86) ([] : List S84) 0 0 0 0 0 0 0 t203.2.1 t203.2.2 (IntKind.i64.wrap (1 + t7.1)) t26.1 t10.1 j116.2.2 j140.2.2 j162.1 (IntKind.u64.wrap (j162.1 + (IntKind.u64.wrap (IntKind.i64.wrap (t173.1 * t176.1))))) (IntKind.u64.wrap (j162.1 + (IntKind.u64.wrap (IntKind.i64.wrap (t184.1 * t187.1))))) t195.1 j162.2 (IntKind.i64.wrap (1 + t19.1)) y114.2.2 >>= fun (y249 : (List Int)) => (spec_l1Next.f l0 t203.2.1 t203.2.2 2 >>= fun t252 => (if t252.1 = 0 then (if (y249.length + 1) * 8 ≤ 140737488355328 then (some (IntKind.i64.wrap (1 + t7.1), t26.1, (y249 ++ ([1] : List Int)), j116.2.2, j140.2.2, IntKind.u64.wrap (j162.1 + (IntKind.u64.wrap (IntKind.i64.wrap (t173.1 * t176.1)))), IntKind.u64.wrap (j162.1 + (IntKind.u64.wrap (IntKind.i64.wrap (t184.1 * t187.1)))), t195.1, IntKind.i64.wrap (1 + t19.1))) else none) else (some (IntKind.i64.wrap (1 + t7.1), t26.1, y249, j116.2.2, j140.2.2, IntKind.u64.wrap (j162.1 + (IntKind.u64.wrap (IntKind.i64.wrap (t173.1 * t176.1)))), IntKind.u64.wrap (j162.1 + (IntKind.u64.wrap (IntKind.i64.wrap (t184.1 * t187.1)))), t195.1, IntKind.i64.wrap (1 + t19.1)))))) else (if t203.1 = 9 then (some (IntKind.i64.wrap (1 + t7.1), t26.1, y114.2.2, j116.2.2, 0, IntKind.u64.wrap (j162.1 + (IntKind.u64.wrap (IntKind.i64.wrap (t173.1 * t176.1)))), IntKind.u64.wrap (j162.1 + (IntKind.u64.wrap (IntKind.i64.wrap (t184.1 * t187.1)))), t195.1, IntKind.i64.wrap (1 + t19.1))) else (some (IntKind.i64.wrap (1 + t7.1), t26.1, y114.2.2, j116.2.2, j140.2.2, IntKind.u64.wrap (j162.1 + (IntKind.u64.wrap (IntKind.i64.wrap (t173.1 * t176.1)))), IntKind.u64.wrap (j162.1 + (IntKind.u64.wrap (IntKind.i64.wrap (t184.1 * t187.1)))), t195.1, IntKind.i64.wrap (1 + t19.1)))))))))))))) >>= fun (j198 : Int × Int × (List Int) × (List S84) × Int × Int × Int × Int × Int) => (some (j198.1, j198.2.1, j198.2.2.1, t10.1, j198.2.2.2.1, j198.2.2.2.2.1, j162.1, j198.2.2.2.2.2.1, j198.2.2.2.2.2.2.1, j198.2.2.2.2.2.2.2.1, j162.2, j198.2.2.2.2.2.2.2.2))))))))))))))))))))
def spec_DrawPlanSend.l0_M (cs0 : List Cell) (o0 : Nat) (l0 : List Int) (hv0 : Vw c_u8 1 cs0 o0 l0) (x0_0 : Int) (x0_2 : Int) (x0_3 : Int) (x0_4 : (List Int)) (x0_5 : (List S86)) (x0_6 : (List S84)) (x0_7 : Int) (x0_8 : Int) (x0_9 : Int) (x0_10 : Int) (x0_11 : Int) (x0_12 : Int) (x0_13 : Int) (x0_16 : Int) (x0_17 : Int) (x0_19 : (List S86)) (x0_20 : (List S84)) (x0_21 : Int) (x0_22 : Int) (x0_23 : Int) (x0_24 : Int) (x0_25 : Int) (x0_26 : Int) (x0_27 : Int) (x0_1 : Int) (x0_14 : Int) (x0_15 : Int) (x0_18 : (List Int)) (y : (Int × Int × (List Int))) : Prop := ∀ (K : AE → St → Prop), (K (.exit 0) ⟨[(2, .c (.ptr (.tmp 2 0) [] 0)), (3, .c (.ptr (.tmp 3 0) [] 0)), (4, .c (.ptr (.tmp 4 0) [] 0))], [(.arg 0, ⟨.fz, 1, cs0⟩), (.tmp 2 0, ⟨.box, 0, [.sc (.int .i64 x0_2), .sc (.int .i64 x0_3), .own 1 x0_4.length (encL c_i64 x0_4), .own 3 x0_5.length (encL c86 x0_5), .own 5 x0_6.length (encL c84 x0_6), .sc (.int .i64 x0_7), .sc (.int .u64 x0_8), .sc (.int .u64 x0_9), .sc (.int .u64 x0_10), .sc (.int .i64 x0_11), .sc (.int .i64 x0_12), .sc (.int .i64 x0_13)]⟩), (.tmp 3 0, ⟨.box, 0, [.ref (.arg 0) [] o0 l0.length, .sc (.int .i64 y.1), .sc (.int .u64 y.2.1)]⟩), (.tmp 4 0, ⟨.box, 0, [.sc (.int .i64 x0_16), .sc (.int .i64 x0_17), .own 1 y.2.2.length (encL c_i64 y.2.2), .own 3 x0_19.length (encL c86 x0_19), .own 5 x0_20.length (encL c84 x0_20), .sc (.int .i64 x0_21), .sc (.int .u64 x0_22), .sc (.int .u64 x0_23), .sc (.int .u64 x0_24), .sc (.int .i64 x0_25), .sc (.int .i64 x0_26), .sc (.int .i64 x0_27)]⟩)], [], []⟩) → loopS Try.prog 169 (.ga C54_l0) K ⟨[(2, .c (.ptr (.tmp 2 0) [] 0)), (3, .c (.ptr (.tmp 3 0) [] 0)), (4, .c (.ptr (.tmp 4 0) [] 0)), (5, .c (.sc (.int .i64 x0_0))), (6, .c (.sc (.int .i64 x0_1)))], [(.arg 0, ⟨.fz, 1, cs0⟩), (.tmp 2 0, ⟨.box, 0, [.sc (.int .i64 x0_2), .sc (.int .i64 x0_3), .own 1 x0_4.length (encL c_i64 x0_4), .own 3 x0_5.length (encL c86 x0_5), .own 5 x0_6.length (encL c84 x0_6), .sc (.int .i64 x0_7), .sc (.int .u64 x0_8), .sc (.int .u64 x0_9), .sc (.int .u64 x0_10), .sc (.int .i64 x0_11), .sc (.int .i64 x0_12), .sc (.int .i64 x0_13)]⟩), (.tmp 3 0, ⟨.box, 0, [.ref (.arg 0) [] o0 l0.length, .sc (.int .i64 x0_14), .sc (.int .u64 x0_15)]⟩), (.tmp 4 0, ⟨.box, 0, [.sc (.int .i64 x0_16), .sc (.int .i64 x0_17), .own 1 x0_18.length (encL c_i64 x0_18), .own 3 x0_19.length (encL c86 x0_19), .own 5 x0_20.length (encL c84 x0_20), .sc (.int .i64 x0_21), .sc (.int .u64 x0_22), .sc (.int .u64 x0_23), .sc (.int .u64 x0_24), .sc (.int .i64 x0_25), .sc (.int .i64 x0_26), .sc (.int .i64 x0_27)]⟩)], [], []⟩
theorem spec_DrawPlanSend.l0_walk (cs0 : List Cell) (o0 : Nat) (l0 : List Int) (hv0 : Vw c_u8 1 cs0 o0 l0) (x0_0 : Int) (x0_2 : Int) (x0_3 : Int) (x0_4 : (List Int)) (x0_5 : (List S86)) (x0_6 : (List S84)) (x0_7 : Int) (x0_8 : Int) (x0_9 : Int) (x0_10 : Int) (x0_11 : Int) (x0_12 : Int) (x0_13 : Int) (x0_16 : Int) (x0_17 : Int) (x0_19 : (List S86)) (x0_20 : (List S84)) (x0_21 : Int) (x0_22 : Int) (x0_23 : Int) (x0_24 : Int) (x0_25 : Int) (x0_26 : Int) (x0_27 : Int) (x0_1 : Int) (x0_14 : Int) (x0_15 : Int) (x0_18 : (List Int)) (y : (Int × Int × (List Int))) (h : spec_DrawPlanSend.l0 l0 x0_0 x0_2 x0_3 x0_4 x0_5 x0_6 x0_7 x0_8 x0_9 x0_10 x0_11 x0_12 x0_13 x0_16 x0_17 x0_19 x0_20 x0_21 x0_22 x0_23 x0_24 x0_25 x0_26 x0_27 x0_1 x0_14 x0_15 x0_18 = some y) : spec_DrawPlanSend.l0_M cs0 o0 l0 hv0 x0_0 x0_2 x0_3 x0_4 x0_5 x0_6 x0_7 x0_8 x0_9 x0_10 x0_11 x0_12 x0_13 x0_16 x0_17 x0_19 x0_20 x0_21 x0_22 x0_23 x0_24 x0_25 x0_26 x0_27 x0_1 x0_14 x0_15 x0_18 y := by
 refine spec_DrawPlanSend.l0.partial_correctness l0 x0_0 x0_2 x0_3 x0_4 x0_5 x0_6 x0_7 x0_8 x0_9 x0_10 x0_11 x0_12 x0_13 x0_16 x0_17 x0_19 x0_20 x0_21 x0_22 x0_23 x0_24 x0_25 x0_26 x0_27 (motive := fun x0_1 x0_14 x0_15 x0_18 y => spec_DrawPlanSend.l0_M cs0 o0 l0 hv0 x0_0 x0_2 x0_3 x0_4 x0_5 x0_6 x0_7 x0_8 x0_9 x0_10 x0_11 x0_12 x0_13 x0_16 x0_17 x0_19 x0_20 x0_21 x0_22 x0_23 x0_24 x0_25 x0_26 x0_27 x0_1 x0_14 x0_15 x0_18 y) ?_ x0_1 x0_14 x0_15 x0_18 y h
 clear h
 unfold spec_DrawPlanSend.l0_M
 intro rec ih x0_1 x0_14 x0_15 x0_18 y h K hx0
 refine loop_unroll (ga_k fun G0 G0n G0r G0x => ?_)
 unfold C54_l0
 refine seq_k fun J36 hJ36 => ?_
 refine sr_k fun J37 hJ37 => ?_
 simp +decide only [reduceAdd, reduceMul, reduceToNat, ak]
 refine hJ37 _ ?_
 refine cond_k (b := decide (x0_1 < x0_0)) rfl (fun c38 => ?_) (fun c38 => ?_)
 ·replace c38 := of_decide_eq_true c38; rw [if_pos c38] at h
  refine hJ36 _ ?_
  refine seq_k fun J39 hJ39 => ?_
  refine block_k fun B40 B40n B40x B40r B40j => ?_
  refine regD_k ?_
  simp +decide only [reduceAdd, reduceMul, reduceToNat, ak]
  obtain ⟨t41, h42, h⟩ := of_bind h
  obtain ⟨b49, h⟩ := of_guard h
  refine alt_e ?_
  ·simp +decide only [reduceAdd, reduceMul, reduceToNat, ak]
   refine cm [pN (.arg 0) (.tmp 3 0) .box, pN (.arg 1) (.arg 0) .fz] (spec_l1Next.tri (cs0) o0 l0 hv0 x0_14 x0_15 10 _ h42) (fun hl78 => ?_)
   refine cs (mW [.ref (.arg 0) [] o0 l0.length, .sc (.int .i64 t41.2.1), .sc (.int .u64 t41.2.2)] (mF (mN ..))) ?_ (s4 := [(.arg 0, ⟨.fz, 1, cs0⟩), (.tmp 2 0, ⟨.box, 0, [.sc (.int .i64 x0_2), .sc (.int .i64 x0_3), .own 1 x0_4.length (encL c_i64 x0_4), .own 3 x0_5.length (encL c86 x0_5), .own 5 x0_6.length (encL c84 x0_6), .sc (.int .i64 x0_7), .sc (.int .u64 x0_8), .sc (.int .u64 x0_9), .sc (.int .u64 x0_10), .sc (.int .i64 x0_11), .sc (.int .i64 x0_12), .sc (.int .i64 x0_13)]⟩), (.tmp 3 0, ⟨.box, 0, [.ref (.arg 0) [] o0 l0.length, .sc (.int .i64 t41.2.1), .sc (.int .u64 t41.2.2)]⟩), (.tmp 4 0, ⟨.box, 0, [.sc (.int .i64 x0_16), .sc (.int .i64 x0_17), .own 1 x0_18.length (encL c_i64 x0_18), .own 3 x0_19.length (encL c86 x0_19), .own 5 x0_20.length (encL c84 x0_20), .sc (.int .i64 x0_21), .sc (.int .u64 x0_22), .sc (.int .u64 x0_23), .sc (.int .u64 x0_24), .sc (.int .i64 x0_25), .sc (.int .i64 x0_26), .sc (.int .i64 x0_27)]⟩)])
   simp +decide only [reduceAdd, reduceMul, reduceToNat, ak]
   refine alt_e ?_
   ·have g97 : (List.replicate 1 ([.int .i64 0] : List Value)).flatten = [.int .i64 0] := rfl
    have g98 : (⟨.lst, 1, [.sc (.int .i64 t41.1)]⟩ : Root) = ⟨.lst, 1, encL c_i64 ([t41.1] : List Int)⟩ := rfl
    have g99 : ([t41.1] : List Int).length = 1 := rfl
    simp +decide only [reduceAdd, reduceMul, reduceToNat, ak, g97, g98, g99]
    refine alt_e ?_
    ·have g107 : (encL c_i64 ([t41.1] : List Int)).take 1 = encL c_i64 ([t41.1] : List Int) := by simpa using (Vw.whole c_i64_w ([t41.1] : List Int)).all
     have g108 : (encL c_i64 ([t41.1] : List Int)).all isSc = true := encL_all (fun _ => rfl) _
     have g109 : appLim x0_18.length 1 8 := ⟨b49, by have := b49; omega⟩
     have g110 : (encL c_i64 x0_18).length = x0_18.length * 1 := by simp [encL_length c_i64_w]
     have g111 : encL c_i64 x0_18 ++ encL c_i64 ([t41.1] : List Int) = encL c_i64 (x0_18 ++ ([t41.1] : List Int)) := (encL_append _ _).symm
     simp +decide only [reduceAdd, reduceMul, reduceToNat, ak, g107, g108, g109, g110, g111]
     refine alt_e ?_
     ·have g113 : (encL c_i64 (x0_18 ++ ([t41.1] : List Int))).length = (x0_18.length + 1) * 1 := by simp [encL_length c_i64_w]
      simp +decide only [reduceAdd, reduceMul, reduceToNat, ak, g113]
      refine B40n _ ?_
      refine hJ39 _ ?_
      refine reg_k ?_
      simp +decide only [reduceAdd, reduceMul, reduceToNat, ak]
      refine G0n _ _ (wj [2, 3, 4, 5, 6] [pI (.arg 0) .fz, pI (.tmp 2 0) .box, pI (.tmp 3 0) .box, pI (.tmp 4 0) .box]) (ih _ _ _ _ _ h K hx0)
 ·replace c38 := of_decide_eq_false c38; rw [if_neg c38] at h
  obtain rfl := Option.some.inj h
  refine gh_k (wk [2, 3, 4] [pI (.arg 0) .fz, pI (.tmp 2 0) .box, pI (.tmp 3 0) .box, pI (.tmp 4 0) .box]) ?_
  refine G0x _ _ ?_
  exact hx0
def spec_DrawPlanSend.l1_M (cs0 : List Cell) (o0 : Nat) (l0 : List Int) (hv0 : Vw c_u8 1 cs0 o0 l0) (x1_1 : Int) (x1_2 : Int) (x1_3 : (List Int)) (x1_4 : (List S86)) (x1_5 : (List S84)) (x1_6 : Int) (x1_7 : Int) (x1_8 : Int) (x1_9 : Int) (x1_10 : Int) (x1_11 : Int) (x1_12 : Int) (x1_13 : Int) (x1_14 : Int) (x1_15 : Int) (x1_16 : Int) (x1_17 : (List Int)) (x1_18 : (List S86)) (x1_20 : Int) (x1_21 : Int) (x1_22 : Int) (x1_23 : Int) (x1_24 : Int) (x1_25 : Int) (x1_26 : Int) (x1_0 : Int) (x1_19 : (List S84)) (y : (List S84)) : Prop := ∀ (K : AE → St → Prop), (K (.exit 2) ⟨[(2, .c (.ptr (.tmp 2 0) [] 0)), (3, .c (.ptr (.tmp 3 0) [] 0)), (4, .c (.ptr (.tmp 4 0) [] 0))], [(.arg 0, ⟨.fz, 1, cs0⟩), (.tmp 2 0, ⟨.box, 0, [.sc (.int .i64 x1_1), .sc (.int .i64 x1_2), .own 1 x1_3.length (encL c_i64 x1_3), .own 3 x1_4.length (encL c86 x1_4), .own 5 x1_5.length (encL c84 x1_5), .sc (.int .i64 x1_6), .sc (.int .u64 x1_7), .sc (.int .u64 x1_8), .sc (.int .u64 x1_9), .sc (.int .i64 x1_10), .sc (.int .i64 x1_11), .sc (.int .i64 x1_12)]⟩), (.tmp 3 0, ⟨.box, 0, [.ref (.arg 0) [] o0 l0.length, .sc (.int .i64 x1_13), .sc (.int .u64 x1_14)]⟩), (.tmp 4 0, ⟨.box, 0, [.sc (.int .i64 x1_15), .sc (.int .i64 x1_16), .own 1 x1_17.length (encL c_i64 x1_17), .own 3 x1_18.length (encL c86 x1_18), .own 5 y.length (encL c84 y), .sc (.int .i64 x1_20), .sc (.int .u64 x1_21), .sc (.int .u64 x1_22), .sc (.int .u64 x1_23), .sc (.int .i64 x1_24), .sc (.int .i64 x1_25), .sc (.int .i64 x1_26)]⟩)], [], []⟩) → loopS Try.prog 169 (.ga C54_l1) K ⟨[(2, .c (.ptr (.tmp 2 0) [] 0)), (3, .c (.ptr (.tmp 3 0) [] 0)), (4, .c (.ptr (.tmp 4 0) [] 0)), (7, .c (.sc (.int .i64 x1_0)))], [(.arg 0, ⟨.fz, 1, cs0⟩), (.tmp 2 0, ⟨.box, 0, [.sc (.int .i64 x1_1), .sc (.int .i64 x1_2), .own 1 x1_3.length (encL c_i64 x1_3), .own 3 x1_4.length (encL c86 x1_4), .own 5 x1_5.length (encL c84 x1_5), .sc (.int .i64 x1_6), .sc (.int .u64 x1_7), .sc (.int .u64 x1_8), .sc (.int .u64 x1_9), .sc (.int .i64 x1_10), .sc (.int .i64 x1_11), .sc (.int .i64 x1_12)]⟩), (.tmp 3 0, ⟨.box, 0, [.ref (.arg 0) [] o0 l0.length, .sc (.int .i64 x1_13), .sc (.int .u64 x1_14)]⟩), (.tmp 4 0, ⟨.box, 0, [.sc (.int .i64 x1_15), .sc (.int .i64 x1_16), .own 1 x1_17.length (encL c_i64 x1_17), .own 3 x1_18.length (encL c86 x1_18), .own 5 x1_19.length (encL c84 x1_19), .sc (.int .i64 x1_20), .sc (.int .u64 x1_21), .sc (.int .u64 x1_22), .sc (.int .u64 x1_23), .sc (.int .i64 x1_24), .sc (.int .i64 x1_25), .sc (.int .i64 x1_26)]⟩)], [], []⟩
theorem spec_DrawPlanSend.l1_walk (cs0 : List Cell) (o0 : Nat) (l0 : List Int) (hv0 : Vw c_u8 1 cs0 o0 l0) (x1_1 : Int) (x1_2 : Int) (x1_3 : (List Int)) (x1_4 : (List S86)) (x1_5 : (List S84)) (x1_6 : Int) (x1_7 : Int) (x1_8 : Int) (x1_9 : Int) (x1_10 : Int) (x1_11 : Int) (x1_12 : Int) (x1_13 : Int) (x1_14 : Int) (x1_15 : Int) (x1_16 : Int) (x1_17 : (List Int)) (x1_18 : (List S86)) (x1_20 : Int) (x1_21 : Int) (x1_22 : Int) (x1_23 : Int) (x1_24 : Int) (x1_25 : Int) (x1_26 : Int) (x1_0 : Int) (x1_19 : (List S84)) (y : (List S84)) (h : spec_DrawPlanSend.l1 x1_1 x1_2 x1_3 x1_4 x1_5 x1_6 x1_7 x1_8 x1_9 x1_10 x1_11 x1_12 x1_13 x1_14 x1_15 x1_16 x1_17 x1_18 x1_20 x1_21 x1_22 x1_23 x1_24 x1_25 x1_26 x1_0 x1_19 = some y) : spec_DrawPlanSend.l1_M cs0 o0 l0 hv0 x1_1 x1_2 x1_3 x1_4 x1_5 x1_6 x1_7 x1_8 x1_9 x1_10 x1_11 x1_12 x1_13 x1_14 x1_15 x1_16 x1_17 x1_18 x1_20 x1_21 x1_22 x1_23 x1_24 x1_25 x1_26 x1_0 x1_19 y := by
 refine spec_DrawPlanSend.l1.partial_correctness x1_1 x1_2 x1_3 x1_4 x1_5 x1_6 x1_7 x1_8 x1_9 x1_10 x1_11 x1_12 x1_13 x1_14 x1_15 x1_16 x1_17 x1_18 x1_20 x1_21 x1_22 x1_23 x1_24 x1_25 x1_26 (motive := fun x1_0 x1_19 y => spec_DrawPlanSend.l1_M cs0 o0 l0 hv0 x1_1 x1_2 x1_3 x1_4 x1_5 x1_6 x1_7 x1_8 x1_9 x1_10 x1_11 x1_12 x1_13 x1_14 x1_15 x1_16 x1_17 x1_18 x1_20 x1_21 x1_22 x1_23 x1_24 x1_25 x1_26 x1_0 x1_19 y) ?_ x1_0 x1_19 y h
 clear h
 unfold spec_DrawPlanSend.l1_M
 intro rec ih x1_0 x1_19 y h K hx0
 refine loop_unroll (ga_k fun G1 G1n G1r G1x => ?_)
 unfold C54_l1
 refine seq_k fun J127 hJ127 => ?_
 refine sr_k fun J128 hJ128 => ?_
 simp +decide only [reduceAdd, reduceMul, reduceToNat, ak]
 refine hJ128 _ ?_
 refine cond_k (b := decide (x1_0 < (x1_19.length : Int))) rfl (fun c129 => ?_) (fun c129 => ?_)
 ·replace c129 := of_decide_eq_true c129; rw [if_pos c129] at h
  refine hJ127 _ ?_
  refine seq_k fun J130 hJ130 => ?_
  refine block_k fun B131 B131n B131x B131r B131j => ?_
  refine reg_k ?_
  obtain ⟨b132, h⟩ := of_guard h
  have g133 : 0 + x1_0.toNat * 5 + 4 ≤ (encL c84 x1_19).length := ((Vw.whole c84_w x1_19).len_le b132.1 b132.2 (by decide))
  have g134 : 0 + x1_0.toNat * 5 + 4 + 1 ≤ (encL c84 x1_19).length := (Vw.whole c84_w x1_19).le b132.1 b132.2 (j := 4) (q := 1) (by decide)
  have g135 : 0 + x1_0.toNat * 5 + 4 < (encL c84 x1_19).length := (Vw.whole c84_w x1_19).lt b132.1 b132.2 (j := 4) (by decide)
  have g136 : (encL c84 x1_19)[0 + x1_0.toNat * 5 + 4]? = some (.sc (.int .i64 ((rd z84 x1_19 x1_0).f4))) := (Vw.whole c84_w x1_19).get z84 4 b132.1 b132.2 (by decide)
  have g137 : (encL c84 x1_19).set (0 + x1_0.toNat * 5 + 4) (.sc (.int .i64 0)) = encL c84 (x1_19.set x1_0.toNat (⟨(rd z84 x1_19 x1_0).f0, (rd z84 x1_19 x1_0).f1, (rd z84 x1_19 x1_0).f2, (rd z84 x1_19 x1_0).f3, 0⟩ : S84)) := encL_put c84_w z84 b132.1 b132.2 (j := 4) (by decide) rfl
  simp +decide only [reduceAdd, reduceMul, reduceToNat, ak, b132, g133, g134, g135, g136, g137]
  refine B131n _ ?_
  refine hJ130 _ ?_
  refine reg_k ?_
  simp +decide only [reduceAdd, reduceMul, reduceToNat, ak]
  refine G1n _ _ (wj [2, 3, 4, 7] [pI (.arg 0) .fz, pI (.tmp 2 0) .box, pI (.tmp 3 0) .box, pI (.tmp 4 0) .box]) (ih _ _ _ h K hx0)
 ·replace c129 := of_decide_eq_false c129; rw [if_neg c129] at h
  obtain rfl := Option.some.inj h
  refine gh_k (wk [2, 3, 4] [pI (.arg 0) .fz, pI (.tmp 2 0) .box, pI (.tmp 3 0) .box, pI (.tmp 4 0) .box]) ?_
  refine G1x _ _ ?_
  exact hx0
def spec_DrawPlanSend.l2_M (cs0 : List Cell) (o0 : Nat) (l0 : List Int) (hv0 : Vw c_u8 1 cs0 o0 l0) (x2_0 : Int) (x2_1 : Int) (x2_2 : (List Int)) (x2_3 : (List S86)) (x2_4 : (List S84)) (x2_5 : Int) (x2_6 : Int) (x2_7 : Int) (x2_8 : Int) (x2_9 : Int) (x2_10 : Int) (x2_11 : Int) (x2_12 : Int) (x2_13 : Int) (x2_14 : Int) (x2_15 : Int) (x2_17 : (List S86)) (x2_18 : (List S84)) (x2_19 : Int) (x2_20 : Int) (x2_21 : Int) (x2_22 : Int) (x2_23 : Int) (x2_24 : Int) (x2_25 : Int) (x2_16 : (List Int)) (y : (List Int)) : Prop := ∀ (K : AE → St → Prop), (K (.exit 5) ⟨[(2, .c (.ptr (.tmp 2 0) [] 0)), (3, .c (.ptr (.tmp 3 0) [] 0)), (4, .c (.ptr (.tmp 4 0) [] 0))], [(.arg 0, ⟨.fz, 1, cs0⟩), (.tmp 2 0, ⟨.box, 0, [.sc (.int .i64 x2_0), .sc (.int .i64 x2_1), .own 1 x2_2.length (encL c_i64 x2_2), .own 3 x2_3.length (encL c86 x2_3), .own 5 x2_4.length (encL c84 x2_4), .sc (.int .i64 x2_5), .sc (.int .u64 x2_6), .sc (.int .u64 x2_7), .sc (.int .u64 x2_8), .sc (.int .i64 x2_9), .sc (.int .i64 x2_10), .sc (.int .i64 x2_11)]⟩), (.tmp 3 0, ⟨.box, 0, [.ref (.arg 0) [] o0 l0.length, .sc (.int .i64 x2_12), .sc (.int .u64 x2_13)]⟩), (.tmp 4 0, ⟨.box, 0, [.sc (.int .i64 x2_14), .sc (.int .i64 x2_15), .own 1 y.length (encL c_i64 y), .own 3 x2_17.length (encL c86 x2_17), .own 5 x2_18.length (encL c84 x2_18), .sc (.int .i64 x2_19), .sc (.int .u64 x2_20), .sc (.int .u64 x2_21), .sc (.int .u64 x2_22), .sc (.int .i64 x2_23), .sc (.int .i64 x2_24), .sc (.int .i64 x2_25)]⟩)], [], []⟩) → loopS Try.prog 169 (.ga C54_l2) K ⟨[(2, .c (.ptr (.tmp 2 0) [] 0)), (3, .c (.ptr (.tmp 3 0) [] 0)), (4, .c (.ptr (.tmp 4 0) [] 0))], [(.arg 0, ⟨.fz, 1, cs0⟩), (.tmp 2 0, ⟨.box, 0, [.sc (.int .i64 x2_0), .sc (.int .i64 x2_1), .own 1 x2_2.length (encL c_i64 x2_2), .own 3 x2_3.length (encL c86 x2_3), .own 5 x2_4.length (encL c84 x2_4), .sc (.int .i64 x2_5), .sc (.int .u64 x2_6), .sc (.int .u64 x2_7), .sc (.int .u64 x2_8), .sc (.int .i64 x2_9), .sc (.int .i64 x2_10), .sc (.int .i64 x2_11)]⟩), (.tmp 3 0, ⟨.box, 0, [.ref (.arg 0) [] o0 l0.length, .sc (.int .i64 x2_12), .sc (.int .u64 x2_13)]⟩), (.tmp 4 0, ⟨.box, 0, [.sc (.int .i64 x2_14), .sc (.int .i64 x2_15), .own 1 x2_16.length (encL c_i64 x2_16), .own 3 x2_17.length (encL c86 x2_17), .own 5 x2_18.length (encL c84 x2_18), .sc (.int .i64 x2_19), .sc (.int .u64 x2_20), .sc (.int .u64 x2_21), .sc (.int .u64 x2_22), .sc (.int .i64 x2_23), .sc (.int .i64 x2_24), .sc (.int .i64 x2_25)]⟩)], [], []⟩
theorem spec_DrawPlanSend.l2_walk (cs0 : List Cell) (o0 : Nat) (l0 : List Int) (hv0 : Vw c_u8 1 cs0 o0 l0) (x2_0 : Int) (x2_1 : Int) (x2_2 : (List Int)) (x2_3 : (List S86)) (x2_4 : (List S84)) (x2_5 : Int) (x2_6 : Int) (x2_7 : Int) (x2_8 : Int) (x2_9 : Int) (x2_10 : Int) (x2_11 : Int) (x2_12 : Int) (x2_13 : Int) (x2_14 : Int) (x2_15 : Int) (x2_17 : (List S86)) (x2_18 : (List S84)) (x2_19 : Int) (x2_20 : Int) (x2_21 : Int) (x2_22 : Int) (x2_23 : Int) (x2_24 : Int) (x2_25 : Int) (x2_16 : (List Int)) (y : (List Int)) (h : spec_DrawPlanSend.l2 x2_0 x2_1 x2_2 x2_3 x2_4 x2_5 x2_6 x2_7 x2_8 x2_9 x2_10 x2_11 x2_12 x2_13 x2_14 x2_15 x2_17 x2_18 x2_19 x2_20 x2_21 x2_22 x2_23 x2_24 x2_25 x2_16 = some y) : spec_DrawPlanSend.l2_M cs0 o0 l0 hv0 x2_0 x2_1 x2_2 x2_3 x2_4 x2_5 x2_6 x2_7 x2_8 x2_9 x2_10 x2_11 x2_12 x2_13 x2_14 x2_15 x2_17 x2_18 x2_19 x2_20 x2_21 x2_22 x2_23 x2_24 x2_25 x2_16 y := by
 refine spec_DrawPlanSend.l2.partial_correctness x2_0 x2_1 x2_2 x2_3 x2_4 x2_5 x2_6 x2_7 x2_8 x2_9 x2_10 x2_11 x2_12 x2_13 x2_14 x2_15 x2_17 x2_18 x2_19 x2_20 x2_21 x2_22 x2_23 x2_24 x2_25 (motive := fun x2_16 y => spec_DrawPlanSend.l2_M cs0 o0 l0 hv0 x2_0 x2_1 x2_2 x2_3 x2_4 x2_5 x2_6 x2_7 x2_8 x2_9 x2_10 x2_11 x2_12 x2_13 x2_14 x2_15 x2_17 x2_18 x2_19 x2_20 x2_21 x2_22 x2_23 x2_24 x2_25 x2_16 y) ?_ x2_16 y h
 clear h
 unfold spec_DrawPlanSend.l2_M
 intro rec ih x2_16 y h K hx0
 refine loop_unroll (ga_k fun G2 G2n G2r G2x => ?_)
 unfold C54_l2
 refine seq_k fun J235 hJ235 => ?_
 refine sr_k fun J236 hJ236 => ?_
 simp +decide only [reduceAdd, reduceMul, reduceToNat, ak]
 refine hJ236 _ ?_
 refine cond_k (b := decide ((x2_16.length : Int) < 1000)) rfl (fun c237 => ?_) (fun c237 => ?_)
 ·replace c237 := of_decide_eq_true c237; rw [if_pos c237] at h
  refine hJ235 _ ?_
  refine block_k fun B238 B238n B238x B238r B238j => ?_
  refine reg_k ?_
  have g239 : (List.replicate 1 ([.int .i64 0] : List Value)).flatten = [.int .i64 0] := rfl
  have g240 : (⟨.lst, 1, [.sc (.int .i64 1)]⟩ : Root) = ⟨.lst, 1, encL c_i64 ([1] : List Int)⟩ := rfl
  have g241 : ([1] : List Int).length = 1 := rfl
  have g242 : (encL c_i64 ([1] : List Int)).length = 1 * 1 := by simp [encL_length c_i64_w]
  have g243 : (encL c_i64 ([1] : List Int)).all nd = true := rfl
  obtain ⟨b244, h⟩ := of_guard h
  have g245 : appLim x2_16.length 1 8 := ⟨b244, by have := b244; omega⟩
  have g246 : (encL c_i64 x2_16).length = x2_16.length * 1 := by simp [encL_length c_i64_w]
  have g247 : encL c_i64 x2_16 ++ encL c_i64 ([1] : List Int) = encL c_i64 (x2_16 ++ ([1] : List Int)) := (encL_append _ _).symm
  have g248 : (encL c_i64 (x2_16 ++ ([1] : List Int))).length = (x2_16.length + 1) * 1 := by simp [encL_length c_i64_w]
  simp +decide only [reduceAdd, reduceMul, reduceToNat, ak, g239, g240, g241, g242, g243, g245, g246, g247, g248]
  refine B238n _ ?_
  refine G2n _ _ (wj [2, 3, 4] [pI (.arg 0) .fz, pI (.tmp 2 0) .box, pI (.tmp 3 0) .box, pI (.tmp 4 0) .box]) (ih _ _ h K hx0)
 ·replace c237 := of_decide_eq_false c237; rw [if_neg c237] at h
  obtain rfl := Option.some.inj h
  refine gh_k (wk [2, 3, 4] [pI (.arg 0) .fz, pI (.tmp 2 0) .box, pI (.tmp 3 0) .box, pI (.tmp 4 0) .box]) ?_
  refine G2x _ _ ?_
  exact hx0
theorem spec_DrawPlanSend.tri (cs0 : List Cell) (o0 : Nat) (l0 : List Int) (hv0 : Vw c_u8 1 cs0 o0 l0) (r : Int × Int × (List Int) × (List S86) × (List S84) × Int × Int × Int × Int × Int × Int × Int) (h : spec_DrawPlanSend.f l0 = some r) : Tri Try.prog 54 [.c (.ref (.arg 0) [] o0 l0.length)] [(.arg 0, ⟨.fz, 1, cs0⟩)] (fun o => o = ⟨.g [.sc (.int .i64 r.1), .sc (.int .i64 r.2.1), .ref (.res 0) [] 0 r.2.2.1.length, .ref (.res 1) [] 0 r.2.2.2.1.length, .ref (.res 2) [] 0 r.2.2.2.2.1.length, .sc (.int .i64 r.2.2.2.2.2.1), .sc (.int .u64 r.2.2.2.2.2.2.1), .sc (.int .u64 r.2.2.2.2.2.2.2.1), .sc (.int .u64 r.2.2.2.2.2.2.2.2.1), .sc (.int .i64 r.2.2.2.2.2.2.2.2.2.1), .sc (.int .i64 r.2.2.2.2.2.2.2.2.2.2.1), .sc (.int .i64 r.2.2.2.2.2.2.2.2.2.2.2)], [(.arg 0, ⟨.fz, 1, cs0⟩), (.res 0, ⟨.lst, 1, encL c_i64 r.2.2.1⟩), (.res 1, ⟨.lst, 3, encL c86 r.2.2.2.1⟩), (.res 2, ⟨.lst, 5, encL c84 r.2.2.2.2.1⟩)], [], []⟩) := by
 refine tri_of_body (ac := C54) (xs := r54) Try.func54 (show Try.f54.body = some (Try.f54.body.getD .skip) from rfl) k54 q54 (Nat.le_of_ble_eq_true rfl) ?_
 refine body_of fun K hKn hKr => ?_
 unfold spec_DrawPlanSend.f at h
 unfold C54
 simp only [initT, Nat.reduceAdd]
 refine sr_k fun J1 hJ1 => ?_
 simp +decide only [reduceAdd, reduceMul, reduceToNat, ak]
 refine gho_k (Weak.own (.tmp 2 0) (cs' := [.sc (.int .i64 0), .sc (.int .i64 0), .own 1 (([] : List Int).length) (encL c_i64 ([] : List Int)), .own 3 (([] : List S86).length) (encL c86 ([] : List S86)), .own 5 (([] : List S84).length) (encL c84 ([] : List S84)), .sc (.int .i64 0), .sc (.int .u64 0), .sc (.int .u64 0), .sc (.int .u64 0), .sc (.int .i64 0), .sc (.int .i64 0), .sc (.int .i64 0)]) rfl ⟨.inl rfl, .inl rfl, .inr ⟨rfl, _, rfl⟩, .inr ⟨rfl, _, rfl⟩, .inr ⟨rfl, _, rfl⟩, .inl rfl, .inl rfl, .inl rfl, .inl rfl, .inl rfl, .inl rfl, .inl rfl, trivial⟩) ?_
 simp +decide only [reduceAdd, reduceMul, reduceToNat, ak]
 refine hJ1 _ ?_
 refine sr_k fun J2 hJ2 => ?_
 simp +decide only [reduceAdd, reduceMul, reduceToNat, ak]
 obtain ⟨t3, h4, h⟩ := of_bind h
 refine cm [pI (.arg 0) .fz] (spec_l1Begin.tri (cs0) o0 l0 hv0 _ h4) (fun hl4 => ?_)
 refine ct (.g [.ref (.arg 0) [] o0 l0.length, .sc (.int .i64 t3.1), .sc (.int .u64 t3.2)]) (mF (mN ..)) ?_ (s4 := [(.arg 0, ⟨.fz, 1, cs0⟩), (.tmp 2 0, ⟨.box, 0, [.sc (.int .i64 0), .sc (.int .i64 0), .own 1 (([] : List Int).length) (encL c_i64 ([] : List Int)), .own 3 (([] : List S86).length) (encL c86 ([] : List S86)), .own 5 (([] : List S84).length) (encL c84 ([] : List S84)), .sc (.int .i64 0), .sc (.int .u64 0), .sc (.int .u64 0), .sc (.int .u64 0), .sc (.int .i64 0), .sc (.int .i64 0), .sc (.int .i64 0)]⟩)])
 simp +decide only [reduceAdd, reduceMul, reduceToNat, ak]
 refine gho_k (Weak.own (.tmp 3 0) (cs' := [.own 1 (([] : List Int).length) (encL c_u8 ([] : List Int)), .sc (.int .i64 0), .sc (.int .u64 0)]) rfl ⟨.inr ⟨rfl, _, rfl⟩, .inl rfl, .inl rfl, trivial⟩) ?_
 simp +decide only [reduceAdd, reduceMul, reduceToNat, ak]
 refine hJ2 _ ?_
 refine sr_k fun J6 hJ6 => ?_
 simp +decide only [reduceAdd, reduceMul, reduceToNat, ak]
 obtain ⟨t7, h8, h⟩ := of_bind h
 refine cm [pN (.arg 0) (.tmp 3 0) .box, pN (.arg 1) (.arg 0) .fz] (spec_l1Next.tri (cs0) o0 l0 hv0 t3.1 t3.2 4 _ h8) (fun hl8 => ?_)
 refine cs (mW [.ref (.arg 0) [] o0 l0.length, .sc (.int .i64 t7.2.1), .sc (.int .u64 t7.2.2)] (mF (mN ..))) ?_ (s4 := [(.arg 0, ⟨.fz, 1, cs0⟩), (.tmp 2 0, ⟨.box, 0, [.sc (.int .i64 0), .sc (.int .i64 0), .own 1 (([] : List Int).length) (encL c_i64 ([] : List Int)), .own 3 (([] : List S86).length) (encL c86 ([] : List S86)), .own 5 (([] : List S84).length) (encL c84 ([] : List S84)), .sc (.int .i64 0), .sc (.int .u64 0), .sc (.int .u64 0), .sc (.int .u64 0), .sc (.int .i64 0), .sc (.int .i64 0), .sc (.int .i64 0)]⟩), (.tmp 3 0, ⟨.box, 0, [.ref (.arg 0) [] o0 l0.length, .sc (.int .i64 t7.2.1), .sc (.int .u64 t7.2.2)]⟩)])
 simp +decide only [reduceAdd, reduceMul, reduceToNat, ak]
 obtain ⟨t10, h11, h⟩ := of_bind h
 refine cm [pN (.arg 0) (.tmp 3 0) .box, pN (.arg 1) (.arg 0) .fz] (spec_l6DrawPaths.tri (cs0) o0 l0 hv0 t7.2.1 t7.2.2 _ h11) (fun hl11 => ?_)
 refine ct (.c (.ref (.tmp 13 0) [] 0 t10.1.length)) (mW [.ref (.arg 0) [] o0 l0.length, .sc (.int .i64 t10.2.1), .sc (.int .u64 t10.2.2)] (mF (mN ..))) ?_ (s4 := [(.arg 0, ⟨.fz, 1, cs0⟩), (.tmp 2 0, ⟨.box, 0, [.sc (.int .i64 0), .sc (.int .i64 0), .own 1 (([] : List Int).length) (encL c_i64 ([] : List Int)), .own 3 (([] : List S86).length) (encL c86 ([] : List S86)), .own 5 (([] : List S84).length) (encL c84 ([] : List S84)), .sc (.int .i64 0), .sc (.int .u64 0), .sc (.int .u64 0), .sc (.int .u64 0), .sc (.int .i64 0), .sc (.int .i64 0), .sc (.int .i64 0)]⟩), (.tmp 3 0, ⟨.box, 0, [.ref (.arg 0) [] o0 l0.length, .sc (.int .i64 t10.2.1), .sc (.int .u64 t10.2.2)]⟩), (.tmp 13 0, ⟨.lst, 3, encL c86 t10.1⟩)])
 simp +decide only [reduceAdd, reduceMul, reduceToNat, ak]
 obtain ⟨t13, h14, h⟩ := of_bind h
 refine cm [pN (.arg 0) (.tmp 3 0) .box, pN (.arg 1) (.arg 0) .fz] (spec_l6DrawMaps.tri (cs0) o0 l0 hv0 t10.2.1 t10.2.2 6 _ h14) (fun hl14 => ?_)
 refine ct (.c (.ref (.tmp 14 0) [] 0 t13.1.length)) (mW [.ref (.arg 0) [] o0 l0.length, .sc (.int .i64 t13.2.1), .sc (.int .u64 t13.2.2)] (mF (mN ..))) ?_ (s4 := [(.arg 0, ⟨.fz, 1, cs0⟩), (.tmp 2 0, ⟨.box, 0, [.sc (.int .i64 0), .sc (.int .i64 0), .own 1 (([] : List Int).length) (encL c_i64 ([] : List Int)), .own 3 (([] : List S86).length) (encL c86 ([] : List S86)), .own 5 (([] : List S84).length) (encL c84 ([] : List S84)), .sc (.int .i64 0), .sc (.int .u64 0), .sc (.int .u64 0), .sc (.int .u64 0), .sc (.int .i64 0), .sc (.int .i64 0), .sc (.int .i64 0)]⟩), (.tmp 3 0, ⟨.box, 0, [.ref (.arg 0) [] o0 l0.length, .sc (.int .i64 t13.2.1), .sc (.int .u64 t13.2.2)]⟩), (.tmp 13 0, ⟨.lst, 3, encL c86 t10.1⟩), (.tmp 14 0, ⟨.lst, 5, encL c84 t13.1⟩)])
 simp +decide only [reduceAdd, reduceMul, reduceToNat, ak]
 obtain ⟨t16, h17, h⟩ := of_bind h
 refine cm [pN (.arg 0) (.tmp 3 0) .box, pN (.arg 1) (.arg 0) .fz] (spec_l1Next.tri (cs0) o0 l0 hv0 t13.2.1 t13.2.2 12 _ h17) (fun hl17 => ?_)
 refine cs (mW [.ref (.arg 0) [] o0 l0.length, .sc (.int .i64 t16.2.1), .sc (.int .u64 t16.2.2)] (mF (mN ..))) ?_ (s4 := [(.arg 0, ⟨.fz, 1, cs0⟩), (.tmp 2 0, ⟨.box, 0, [.sc (.int .i64 0), .sc (.int .i64 0), .own 1 (([] : List Int).length) (encL c_i64 ([] : List Int)), .own 3 (([] : List S86).length) (encL c86 ([] : List S86)), .own 5 (([] : List S84).length) (encL c84 ([] : List S84)), .sc (.int .i64 0), .sc (.int .u64 0), .sc (.int .u64 0), .sc (.int .u64 0), .sc (.int .i64 0), .sc (.int .i64 0), .sc (.int .i64 0)]⟩), (.tmp 3 0, ⟨.box, 0, [.ref (.arg 0) [] o0 l0.length, .sc (.int .i64 t16.2.1), .sc (.int .u64 t16.2.2)]⟩), (.tmp 13 0, ⟨.lst, 3, encL c86 t10.1⟩), (.tmp 14 0, ⟨.lst, 5, encL c84 t13.1⟩)])
 simp +decide only [reduceAdd, reduceMul, reduceToNat, ak]
 obtain ⟨t19, h20, h⟩ := of_bind h
 refine cm [pN (.arg 0) (.tmp 3 0) .box, pN (.arg 1) (.arg 0) .fz] (spec_l1Next.tri (cs0) o0 l0 hv0 t16.2.1 t16.2.2 32 _ h20) (fun hl20 => ?_)
 refine cs (mW [.ref (.arg 0) [] o0 l0.length, .sc (.int .i64 t19.2.1), .sc (.int .u64 t19.2.2)] (mF (mN ..))) ?_ (s4 := [(.arg 0, ⟨.fz, 1, cs0⟩), (.tmp 2 0, ⟨.box, 0, [.sc (.int .i64 0), .sc (.int .i64 0), .own 1 (([] : List Int).length) (encL c_i64 ([] : List Int)), .own 3 (([] : List S86).length) (encL c86 ([] : List S86)), .own 5 (([] : List S84).length) (encL c84 ([] : List S84)), .sc (.int .i64 0), .sc (.int .u64 0), .sc (.int .u64 0), .sc (.int .u64 0), .sc (.int .i64 0), .sc (.int .i64 0), .sc (.int .i64 0)]⟩), (.tmp 3 0, ⟨.box, 0, [.ref (.arg 0) [] o0 l0.length, .sc (.int .i64 t19.2.1), .sc (.int .u64 t19.2.2)]⟩), (.tmp 13 0, ⟨.lst, 3, encL c86 t10.1⟩), (.tmp 14 0, ⟨.lst, 5, encL c84 t13.1⟩)])
 simp +decide only [reduceAdd, reduceMul, reduceToNat, ak]
 refine gho_k (Weak.nmg' 19 2 (.tmp 19 22) 1 (encL c_i64 ([] : List Int)) rfl rfl rfl rfl) ?_
 simp +decide only [reduceAdd, reduceMul, reduceToNat, ak]
 refine gho_k (Weak.own (.tmp 4 0) (cs' := [.sc (.int .i64 0), .sc (.int .i64 0), .own 1 (([] : List Int).length) (encL c_i64 ([] : List Int)), .own 3 (([] : List S86).length) (encL c86 ([] : List S86)), .own 5 (([] : List S84).length) (encL c84 ([] : List S84)), .sc (.int .i64 0), .sc (.int .u64 0), .sc (.int .u64 0), .sc (.int .u64 0), .sc (.int .i64 0), .sc (.int .i64 0), .sc (.int .i64 0)]) rfl ⟨.inl rfl, .inl rfl, .inr ⟨rfl, _, rfl⟩, .inr ⟨rfl, _, rfl⟩, .inr ⟨rfl, _, rfl⟩, .inl rfl, .inl rfl, .inl rfl, .inl rfl, .inl rfl, .inl rfl, .inl rfl, trivial⟩) ?_
 have g22 : (encL c_i64 ([] : List Int)).length = 0 * 1 := by simp [encL_length c_i64_w]
 have g23 : (encL c86 t10.1).length = t10.1.length * 3 := by simp [encL_length c86_w]
 have g24 : (encL c84 t13.1).length = t13.1.length * 5 := by simp [encL_length c84_w]
 simp +decide only [reduceAdd, reduceMul, reduceToNat, ak, g22, g23, g24]
 refine hJ6 _ ?_
 refine sr_k fun J25 hJ25 => ?_
 simp +decide only [reduceAdd, reduceMul, reduceToNat, ak]
 obtain ⟨t26, h27, h⟩ := of_bind h
 refine cm [pN (.arg 0) (.tmp 3 0) .box, pN (.arg 1) (.arg 0) .fz] (spec_l1Next.tri (cs0) o0 l0 hv0 t19.2.1 t19.2.2 (t10.1.length : Int) _ h27) (fun hl27 => ?_)
 refine cs (mW [.ref (.arg 0) [] o0 l0.length, .sc (.int .i64 t26.2.1), .sc (.int .u64 t26.2.2)] (mF (mN ..))) ?_ (s4 := [(.arg 0, ⟨.fz, 1, cs0⟩), (.tmp 2 0, ⟨.box, 0, [.sc (.int .i64 0), .sc (.int .i64 0), .own 1 (([] : List Int).length) (encL c_i64 ([] : List Int)), .own 3 (([] : List S86).length) (encL c86 ([] : List S86)), .own 5 (([] : List S84).length) (encL c84 ([] : List S84)), .sc (.int .i64 0), .sc (.int .u64 0), .sc (.int .u64 0), .sc (.int .u64 0), .sc (.int .i64 0), .sc (.int .i64 0), .sc (.int .i64 0)]⟩), (.tmp 3 0, ⟨.box, 0, [.ref (.arg 0) [] o0 l0.length, .sc (.int .i64 t26.2.1), .sc (.int .u64 t26.2.2)]⟩), (.tmp 4 0, ⟨.box, 0, [.sc (.int .i64 (IntKind.i64.wrap (1 + t7.1))), .sc (.int .i64 0), .own 1 0 (encL c_i64 ([] : List Int)), .own 3 t10.1.length (encL c86 t10.1), .own 5 t13.1.length (encL c84 t13.1), .sc (.int .i64 (IntKind.i64.wrap (1 + t16.1))), .sc (.int .u64 0), .sc (.int .u64 0), .sc (.int .u64 0), .sc (.int .i64 0), .sc (.int .i64 0), .sc (.int .i64 (IntKind.i64.wrap (1 + t19.1)))]⟩)])
 simp +decide only [reduceAdd, reduceMul, reduceToNat, ak]
 refine hJ25 _ ?_
 refine sr_k fun J29 hJ29 => ?_
 simp +decide only [reduceAdd, reduceMul, reduceToNat, ak]
 obtain ⟨t30, h31, h⟩ := of_bind h
 refine cm [pN (.arg 0) (.tmp 3 0) .box, pN (.arg 1) (.arg 0) .fz] (spec_l1Next.tri (cs0) o0 l0 hv0 t26.2.1 t26.2.2 4 _ h31) (fun hl31 => ?_)
 refine cs (mW [.ref (.arg 0) [] o0 l0.length, .sc (.int .i64 t30.2.1), .sc (.int .u64 t30.2.2)] (mF (mN ..))) ?_ (s4 := [(.arg 0, ⟨.fz, 1, cs0⟩), (.tmp 2 0, ⟨.box, 0, [.sc (.int .i64 0), .sc (.int .i64 0), .own 1 (([] : List Int).length) (encL c_i64 ([] : List Int)), .own 3 (([] : List S86).length) (encL c86 ([] : List S86)), .own 5 (([] : List S84).length) (encL c84 ([] : List S84)), .sc (.int .i64 0), .sc (.int .u64 0), .sc (.int .u64 0), .sc (.int .u64 0), .sc (.int .i64 0), .sc (.int .i64 0), .sc (.int .i64 0)]⟩), (.tmp 3 0, ⟨.box, 0, [.ref (.arg 0) [] o0 l0.length, .sc (.int .i64 t30.2.1), .sc (.int .u64 t30.2.2)]⟩), (.tmp 4 0, ⟨.box, 0, [.sc (.int .i64 (IntKind.i64.wrap (1 + t7.1))), .sc (.int .i64 t26.1), .own 1 0 (encL c_i64 ([] : List Int)), .own 3 t10.1.length (encL c86 t10.1), .own 5 t13.1.length (encL c84 t13.1), .sc (.int .i64 (IntKind.i64.wrap (1 + t16.1))), .sc (.int .u64 0), .sc (.int .u64 0), .sc (.int .u64 0), .sc (.int .i64 0), .sc (.int .i64 0), .sc (.int .i64 (IntKind.i64.wrap (1 + t19.1)))]⟩)])
 simp +decide only [reduceAdd, reduceMul, reduceToNat, ak]
 refine hJ29 _ ?_
 refine seq_k fun J33 hJ33 => ?_
 refine sr_k fun J34 hJ34 => ?_
 simp +decide only [reduceAdd, reduceMul, reduceToNat, ak]
 refine hJ34 _ ?_
 refine block_k fun B35 B35n B35x B35r B35j => ?_
 obtain ⟨y114, h115, h⟩ := of_bind h
 refine gh_k (st' := ⟨[(2, .c (.ptr (.tmp 2 0) [] 0)), (3, .c (.ptr (.tmp 3 0) [] 0)), (4, .c (.ptr (.tmp 4 0) [] 0)), (5, .c (.sc (.int .i64 t30.1))), (6, .c (.sc (.int .i64 0)))], [(.arg 0, ⟨.fz, 1, cs0⟩), (.tmp 2 0, ⟨.box, 0, [.sc (.int .i64 0), .sc (.int .i64 0), .own 1 (([] : List Int).length) (encL c_i64 ([] : List Int)), .own 3 (([] : List S86).length) (encL c86 ([] : List S86)), .own 5 (([] : List S84).length) (encL c84 ([] : List S84)), .sc (.int .i64 0), .sc (.int .u64 0), .sc (.int .u64 0), .sc (.int .u64 0), .sc (.int .i64 0), .sc (.int .i64 0), .sc (.int .i64 0)]⟩), (.tmp 3 0, ⟨.box, 0, [.ref (.arg 0) [] o0 l0.length, .sc (.int .i64 t30.2.1), .sc (.int .u64 t30.2.2)]⟩), (.tmp 4 0, ⟨.box, 0, [.sc (.int .i64 (IntKind.i64.wrap (1 + t7.1))), .sc (.int .i64 t26.1), .own 1 (([] : List Int).length) (encL c_i64 ([] : List Int)), .own 3 t10.1.length (encL c86 t10.1), .own 5 t13.1.length (encL c84 t13.1), .sc (.int .i64 (IntKind.i64.wrap (1 + t16.1))), .sc (.int .u64 0), .sc (.int .u64 0), .sc (.int .u64 0), .sc (.int .i64 0), .sc (.int .i64 0), .sc (.int .i64 (IntKind.i64.wrap (1 + t19.1)))]⟩)], [], []⟩) (wk [2, 3, 4, 5, 6] [pI (.arg 0) .fz, pI (.tmp 2 0) .box, pI (.tmp 3 0) .box, pI (.tmp 4 0) .box] (h := by first | rfl | (simp +decide only [ak, akF]; done) | (simp +decide [ak, akF] <;> omega))) ?_
 rw [e_loop]
 refine spec_DrawPlanSend.l0_walk cs0 o0 l0 hv0 t30.1 0 0 ([] : List Int) ([] : List S86) ([] : List S84) 0 0 0 0 0 0 0 (IntKind.i64.wrap (1 + t7.1)) t26.1 t10.1 t13.1 (IntKind.i64.wrap (1 + t16.1)) 0 0 0 0 0 (IntKind.i64.wrap (1 + t19.1)) 0 t30.2.1 t30.2.2 ([] : List Int) _ h115 _ ?_
 refine B35x _ ?_
 refine hJ33 _ ?_
 obtain ⟨j116, h117, hn⟩ := of_bind h
 refine seq_j (fun st => st = ⟨[(2, .c (.ptr (.tmp 2 0) [] 0)), (3, .c (.ptr (.tmp 3 0) [] 0)), (4, .c (.ptr (.tmp 4 0) [] 0))], [(.arg 0, ⟨.fz, 1, cs0⟩), (.tmp 2 0, ⟨.box, 0, [.sc (.int .i64 0), .sc (.int .i64 0), .own 1 (([] : List Int).length) (encL c_i64 ([] : List Int)), .own 3 (([] : List S86).length) (encL c86 ([] : List S86)), .own 5 (([] : List S84).length) (encL c84 ([] : List S84)), .sc (.int .i64 0), .sc (.int .u64 0), .sc (.int .u64 0), .sc (.int .u64 0), .sc (.int .i64 0), .sc (.int .i64 0), .sc (.int .i64 0)]⟩), (.tmp 3 0, ⟨.box, 0, [.ref (.arg 0) [] o0 l0.length, .sc (.int .i64 j116.1), .sc (.int .u64 j116.2.1)]⟩), (.tmp 4 0, ⟨.box, 0, [.sc (.int .i64 (IntKind.i64.wrap (1 + t7.1))), .sc (.int .i64 t26.1), .own 1 y114.2.2.length (encL c_i64 y114.2.2), .own 3 t10.1.length (encL c86 t10.1), .own 5 j116.2.2.length (encL c84 j116.2.2), .sc (.int .i64 (IntKind.i64.wrap (1 + t16.1))), .sc (.int .u64 0), .sc (.int .u64 0), .sc (.int .u64 0), .sc (.int .i64 0), .sc (.int .i64 0), .sc (.int .i64 (IntKind.i64.wrap (1 + t19.1)))]⟩)], [], []⟩) (fun J118 hJ118 => ?_) ?_
 ·replace h := h117; clear hn
  refine ga_k fun G119 G119n G119r G119x => ?_
  refine sr_k fun J120 hJ120 => ?_
  simp +decide only [reduceAdd, reduceMul, reduceToNat, ak]
  obtain ⟨t121, h122, h⟩ := of_bind h
  refine cm [pN (.arg 0) (.tmp 3 0) .box, pN (.arg 1) (.arg 0) .fz] (spec_l1Next.tri (cs0) o0 l0 hv0 y114.1 y114.2.1 2 _ h122) (fun hl122 => ?_)
  refine cs (mW [.ref (.arg 0) [] o0 l0.length, .sc (.int .i64 t121.2.1), .sc (.int .u64 t121.2.2)] (mF (mN ..))) ?_ (s4 := [(.arg 0, ⟨.fz, 1, cs0⟩), (.tmp 2 0, ⟨.box, 0, [.sc (.int .i64 0), .sc (.int .i64 0), .own 1 (([] : List Int).length) (encL c_i64 ([] : List Int)), .own 3 (([] : List S86).length) (encL c86 ([] : List S86)), .own 5 (([] : List S84).length) (encL c84 ([] : List S84)), .sc (.int .i64 0), .sc (.int .u64 0), .sc (.int .u64 0), .sc (.int .u64 0), .sc (.int .i64 0), .sc (.int .i64 0), .sc (.int .i64 0)]⟩), (.tmp 3 0, ⟨.box, 0, [.ref (.arg 0) [] o0 l0.length, .sc (.int .i64 t121.2.1), .sc (.int .u64 t121.2.2)]⟩), (.tmp 4 0, ⟨.box, 0, [.sc (.int .i64 (IntKind.i64.wrap (1 + t7.1))), .sc (.int .i64 t26.1), .own 1 y114.2.2.length (encL c_i64 y114.2.2), .own 3 t10.1.length (encL c86 t10.1), .own 5 t13.1.length (encL c84 t13.1), .sc (.int .i64 (IntKind.i64.wrap (1 + t16.1))), .sc (.int .u64 0), .sc (.int .u64 0), .sc (.int .u64 0), .sc (.int .i64 0), .sc (.int .i64 0), .sc (.int .i64 (IntKind.i64.wrap (1 + t19.1)))]⟩)])
  simp +decide only [reduceAdd, reduceMul, reduceToNat, ak]
  refine hJ120 _ ?_
  refine cond_k (b := decide (t121.1 = 0)) rfl (fun c124 => ?_) (fun c124 => ?_)
  ·replace c124 := of_decide_eq_true c124; rw [if_pos c124] at h
   refine sr_k fun J125 hJ125 => ?_
   simp +decide only [reduceAdd, reduceMul, reduceToNat, ak]
   refine hJ125 _ ?_
   refine block_k fun B126 B126n B126x B126r B126j => ?_
   obtain ⟨y138, h139, h⟩ := of_bind h
   refine gh_k (wk [2, 3, 4, 7] [pI (.arg 0) .fz, pI (.tmp 2 0) .box, pI (.tmp 3 0) .box, pI (.tmp 4 0) .box]) ?_
   rw [e_loop]
   refine spec_DrawPlanSend.l1_walk cs0 o0 l0 hv0 0 0 ([] : List Int) ([] : List S86) ([] : List S84) 0 0 0 0 0 0 0 t121.2.1 t121.2.2 (IntKind.i64.wrap (1 + t7.1)) t26.1 y114.2.2 t10.1 (IntKind.i64.wrap (1 + t16.1)) 0 0 0 0 0 (IntKind.i64.wrap (1 + t19.1)) 0 t13.1 _ h139 _ ?_
   refine B126x _ ?_
   obtain rfl := Option.some.inj h
   refine G119n _ _ (wk [2, 3, 4] [pI (.arg 0) .fz, pI (.tmp 2 0) .box, pI (.tmp 3 0) .box, pI (.tmp 4 0) .box]) (hJ118 _ rfl)
  ·replace c124 := of_decide_eq_false c124; rw [if_neg c124] at h
   obtain rfl := Option.some.inj h
   refine G119n _ _ (wk [2, 3, 4] [pI (.arg 0) .fz, pI (.tmp 2 0) .box, pI (.tmp 3 0) .box, pI (.tmp 4 0) .box]) (hJ118 _ rfl)
 ·replace h := hn; clear hn h117
  rintro _ rfl
  obtain ⟨j140, h141, hn⟩ := of_bind h
  refine seq_j (fun st => st = ⟨[(2, .c (.ptr (.tmp 2 0) [] 0)), (3, .c (.ptr (.tmp 3 0) [] 0)), (4, .c (.ptr (.tmp 4 0) [] 0))], [(.arg 0, ⟨.fz, 1, cs0⟩), (.tmp 2 0, ⟨.box, 0, [.sc (.int .i64 0), .sc (.int .i64 0), .own 1 (([] : List Int).length) (encL c_i64 ([] : List Int)), .own 3 (([] : List S86).length) (encL c86 ([] : List S86)), .own 5 (([] : List S84).length) (encL c84 ([] : List S84)), .sc (.int .i64 0), .sc (.int .u64 0), .sc (.int .u64 0), .sc (.int .u64 0), .sc (.int .i64 0), .sc (.int .i64 0), .sc (.int .i64 0)]⟩), (.tmp 3 0, ⟨.box, 0, [.ref (.arg 0) [] o0 l0.length, .sc (.int .i64 j140.1), .sc (.int .u64 j140.2.1)]⟩), (.tmp 4 0, ⟨.box, 0, [.sc (.int .i64 (IntKind.i64.wrap (1 + t7.1))), .sc (.int .i64 t26.1), .own 1 y114.2.2.length (encL c_i64 y114.2.2), .own 3 t10.1.length (encL c86 t10.1), .own 5 j116.2.2.length (encL c84 j116.2.2), .sc (.int .i64 j140.2.2), .sc (.int .u64 0), .sc (.int .u64 0), .sc (.int .u64 0), .sc (.int .i64 0), .sc (.int .i64 0), .sc (.int .i64 (IntKind.i64.wrap (1 + t19.1)))]⟩)], [], []⟩) (fun J142 hJ142 => ?_) ?_
  ·replace h := h141; clear hn
   refine ga_k fun G143 G143n G143r G143x => ?_
   obtain ⟨j144, h145, hn⟩ := of_bind h
   refine seq_j (fun st => st = ⟨[(2, .c (.ptr (.tmp 2 0) [] 0)), (3, .c (.ptr (.tmp 3 0) [] 0)), (4, .c (.ptr (.tmp 4 0) [] 0)), (60, .c (.sc (.bool j144.1)))], [(.arg 0, ⟨.fz, 1, cs0⟩), (.tmp 2 0, ⟨.box, 0, [.sc (.int .i64 0), .sc (.int .i64 0), .own 1 (([] : List Int).length) (encL c_i64 ([] : List Int)), .own 3 (([] : List S86).length) (encL c86 ([] : List S86)), .own 5 (([] : List S84).length) (encL c84 ([] : List S84)), .sc (.int .i64 0), .sc (.int .u64 0), .sc (.int .u64 0), .sc (.int .u64 0), .sc (.int .i64 0), .sc (.int .i64 0), .sc (.int .i64 0)]⟩), (.tmp 3 0, ⟨.box, 0, [.ref (.arg 0) [] o0 l0.length, .sc (.int .i64 j144.2.1), .sc (.int .u64 j144.2.2)]⟩), (.tmp 4 0, ⟨.box, 0, [.sc (.int .i64 (IntKind.i64.wrap (1 + t7.1))), .sc (.int .i64 t26.1), .own 1 y114.2.2.length (encL c_i64 y114.2.2), .own 3 t10.1.length (encL c86 t10.1), .own 5 j116.2.2.length (encL c84 j116.2.2), .sc (.int .i64 (IntKind.i64.wrap (1 + t16.1))), .sc (.int .u64 0), .sc (.int .u64 0), .sc (.int .u64 0), .sc (.int .i64 0), .sc (.int .i64 0), .sc (.int .i64 (IntKind.i64.wrap (1 + t19.1)))]⟩)], [], []⟩) (fun J146 hJ146 => ?_) ?_
   ·replace h := h145; clear hn
    refine ga_k fun G147 G147n G147r G147x => ?_
    refine reg_k ?_
    simp +decide only [reduceAdd, reduceMul, reduceToNat, ak]
    by_cases c148 : (j116.2.2.length : Int) > IntKind.i64.wrap (1 + t16.1)
    ·rw [if_pos c148] at h
     have e149 : decide ((j116.2.2.length : Int) > IntKind.i64.wrap (1 + t16.1)) = true := decide_eq_true c148
     simp +decide only [reduceAdd, reduceMul, reduceToNat, ak, e149]
     obtain ⟨t150, h151, h⟩ := of_bind h
     refine cm [pN (.arg 0) (.tmp 3 0) .box, pN (.arg 1) (.arg 0) .fz] (spec_l1Next.tri (cs0) o0 l0 hv0 j116.1 j116.2.1 6 _ h151) (fun hl151 => ?_)
     refine cs (mW [.ref (.arg 0) [] o0 l0.length, .sc (.int .i64 t150.2.1), .sc (.int .u64 t150.2.2)] (mF (mN ..))) ?_ (s4 := [(.arg 0, ⟨.fz, 1, cs0⟩), (.tmp 2 0, ⟨.box, 0, [.sc (.int .i64 0), .sc (.int .i64 0), .own 1 (([] : List Int).length) (encL c_i64 ([] : List Int)), .own 3 (([] : List S86).length) (encL c86 ([] : List S86)), .own 5 (([] : List S84).length) (encL c84 ([] : List S84)), .sc (.int .i64 0), .sc (.int .u64 0), .sc (.int .u64 0), .sc (.int .u64 0), .sc (.int .i64 0), .sc (.int .i64 0), .sc (.int .i64 0)]⟩), (.tmp 3 0, ⟨.box, 0, [.ref (.arg 0) [] o0 l0.length, .sc (.int .i64 t150.2.1), .sc (.int .u64 t150.2.2)]⟩), (.tmp 4 0, ⟨.box, 0, [.sc (.int .i64 (IntKind.i64.wrap (1 + t7.1))), .sc (.int .i64 t26.1), .own 1 y114.2.2.length (encL c_i64 y114.2.2), .own 3 t10.1.length (encL c86 t10.1), .own 5 j116.2.2.length (encL c84 j116.2.2), .sc (.int .i64 (IntKind.i64.wrap (1 + t16.1))), .sc (.int .u64 0), .sc (.int .u64 0), .sc (.int .u64 0), .sc (.int .i64 0), .sc (.int .i64 0), .sc (.int .i64 (IntKind.i64.wrap (1 + t19.1)))]⟩)])
     simp +decide only [reduceAdd, reduceMul, reduceToNat, ak]
     obtain rfl := Option.some.inj h
     refine G147n _ _ (wj [2, 3, 4, 60] [pI (.arg 0) .fz, pI (.tmp 2 0) .box, pI (.tmp 3 0) .box, pI (.tmp 4 0) .box]) (hJ146 _ rfl)
    ·rw [if_neg c148] at h
     have e153 : decide ((j116.2.2.length : Int) > IntKind.i64.wrap (1 + t16.1)) = false := decide_eq_false c148
     simp +decide only [reduceAdd, reduceMul, reduceToNat, ak, e153]
     obtain rfl := Option.some.inj h
     refine G147n _ _ (wj [2, 3, 4, 60] [pI (.arg 0) .fz, pI (.tmp 2 0) .box, pI (.tmp 3 0) .box, pI (.tmp 4 0) .box]) (hJ146 _ rfl)
   ·replace h := hn; clear hn h145
    rintro _ rfl
    refine cond_k (b := j144.1) rfl (fun c154 => ?_) (fun c154 => ?_)
    ·rw [if_pos c154] at h
     refine sd_k fun J155 hJ155 => ?_
     simp +decide only [reduceAdd, reduceMul, reduceToNat, ak]
     obtain ⟨t156, h157, h⟩ := of_bind h
     refine alt_e ?_
     ·simp +decide only [reduceAdd, reduceMul, reduceToNat, ak]
      refine cm [pN (.arg 0) (.tmp 3 0) .box, pN (.arg 1) (.arg 0) .fz] (spec_l1Next.tri (cs0) o0 l0 hv0 j144.2.1 j144.2.2 3 _ h157) (fun hl158 => ?_)
      refine cs (mW [.ref (.arg 0) [] o0 l0.length, .sc (.int .i64 t156.2.1), .sc (.int .u64 t156.2.2)] (mF (mN ..))) ?_ (s4 := [(.arg 0, ⟨.fz, 1, cs0⟩), (.tmp 2 0, ⟨.box, 0, [.sc (.int .i64 0), .sc (.int .i64 0), .own 1 (([] : List Int).length) (encL c_i64 ([] : List Int)), .own 3 (([] : List S86).length) (encL c86 ([] : List S86)), .own 5 (([] : List S84).length) (encL c84 ([] : List S84)), .sc (.int .i64 0), .sc (.int .u64 0), .sc (.int .u64 0), .sc (.int .u64 0), .sc (.int .i64 0), .sc (.int .i64 0), .sc (.int .i64 0)]⟩), (.tmp 3 0, ⟨.box, 0, [.ref (.arg 0) [] o0 l0.length, .sc (.int .i64 t156.2.1), .sc (.int .u64 t156.2.2)]⟩), (.tmp 4 0, ⟨.box, 0, [.sc (.int .i64 (IntKind.i64.wrap (1 + t7.1))), .sc (.int .i64 t26.1), .own 1 y114.2.2.length (encL c_i64 y114.2.2), .own 3 t10.1.length (encL c86 t10.1), .own 5 j116.2.2.length (encL c84 j116.2.2), .sc (.int .i64 (IntKind.i64.wrap (1 + t16.1))), .sc (.int .u64 0), .sc (.int .u64 0), .sc (.int .u64 0), .sc (.int .i64 0), .sc (.int .i64 0), .sc (.int .i64 (IntKind.i64.wrap (1 + t19.1)))]⟩)])
      simp +decide only [reduceAdd, reduceMul, reduceToNat, ak]
      refine alt_e ?_
      ·simp +decide only [reduceAdd, reduceMul, reduceToNat, ak]
       refine hJ155 _ ?_
       refine sr_k fun J160 hJ160 => ?_
       simp +decide only [reduceAdd, reduceMul, reduceToNat, ak]
       refine hJ160 _ ?_
       refine cond_k (b := decide (IntKind.i64.wrap ((j116.2.2.length : Int) + t156.1) = 0)) rfl (fun c161 => ?_) (fun c161 => ?_)
       ·replace c161 := of_decide_eq_true c161; rw [if_pos c161] at h
        refine reg_k ?_
        simp +decide only [reduceAdd, reduceMul, reduceToNat, ak]
        obtain rfl := Option.some.inj h
        refine G143n _ _ (wk [2, 3, 4] [pI (.arg 0) .fz, pI (.tmp 2 0) .box, pI (.tmp 3 0) .box, pI (.tmp 4 0) .box]) (hJ142 _ rfl)
       ·replace c161 := of_decide_eq_false c161; rw [if_neg c161] at h
        obtain rfl := Option.some.inj h
        refine G143n _ _ (wk [2, 3, 4] [pI (.arg 0) .fz, pI (.tmp 2 0) .box, pI (.tmp 3 0) .box, pI (.tmp 4 0) .box]) (hJ142 _ rfl)
    ·rw [if_neg (Bool.eq_false_iff.1 c154)] at h
     obtain rfl := Option.some.inj h
     refine G143n _ _ (wk [2, 3, 4] [pI (.arg 0) .fz, pI (.tmp 2 0) .box, pI (.tmp 3 0) .box, pI (.tmp 4 0) .box]) (hJ142 _ rfl)
  ·replace h := hn; clear hn h141
   rintro _ rfl
   obtain ⟨j162, h163, hn⟩ := of_bind h
   refine seq_j (fun st => st = ⟨[(2, .c (.ptr (.tmp 2 0) [] 0)), (3, .c (.ptr (.tmp 3 0) [] 0)), (4, .c (.ptr (.tmp 4 0) [] 0))], [(.arg 0, ⟨.fz, 1, cs0⟩), (.tmp 2 0, ⟨.box, 0, [.sc (.int .i64 0), .sc (.int .i64 0), .own 1 (([] : List Int).length) (encL c_i64 ([] : List Int)), .own 3 (([] : List S86).length) (encL c86 ([] : List S86)), .own 5 (([] : List S84).length) (encL c84 ([] : List S84)), .sc (.int .i64 0), .sc (.int .u64 0), .sc (.int .u64 0), .sc (.int .u64 0), .sc (.int .i64 0), .sc (.int .i64 0), .sc (.int .i64 0)]⟩), (.tmp 3 0, ⟨.box, 0, [.ref (.arg 0) [] o0 l0.length, .sc (.int .i64 j140.1), .sc (.int .u64 j140.2.1)]⟩), (.tmp 4 0, ⟨.box, 0, [.sc (.int .i64 (IntKind.i64.wrap (1 + t7.1))), .sc (.int .i64 t26.1), .own 1 y114.2.2.length (encL c_i64 y114.2.2), .own 3 t10.1.length (encL c86 t10.1), .own 5 j116.2.2.length (encL c84 j116.2.2), .sc (.int .i64 j140.2.2), .sc (.int .u64 j162.1), .sc (.int .u64 0), .sc (.int .u64 0), .sc (.int .i64 0), .sc (.int .i64 j162.2), .sc (.int .i64 (IntKind.i64.wrap (1 + t19.1)))]⟩)], [], []⟩) (fun J164 hJ164 => ?_) ?_
   ·replace h := h163; clear hn
    refine ga_k fun G165 G165n G165r G165x => ?_
    refine sr_k fun J166 hJ166 => ?_
    simp +decide only [reduceAdd, reduceMul, reduceToNat, ak]
    refine hJ166 _ ?_
    refine cond_k (b := decide ((j116.2.2.length : Int) > 0)) rfl (fun c167 => ?_) (fun c167 => ?_)
    ·replace c167 := of_decide_eq_true c167; rw [if_pos c167] at h
     refine sr_k fun J168 hJ168 => ?_
     obtain ⟨b169, h⟩ := of_guard h
     have g170 : (List.drop (0 + (IntKind.i64.wrap ((j116.2.2.length : Int) - 1)).toNat * 5) (encL c84 j116.2.2)).take 5 = [.sc (.int .u64 ((rd z84 j116.2.2 (IntKind.i64.wrap ((j116.2.2.length : Int) - 1))).f0)), .sc (.int .i64 ((rd z84 j116.2.2 (IntKind.i64.wrap ((j116.2.2.length : Int) - 1))).f1)), .sc (.int .i64 ((rd z84 j116.2.2 (IntKind.i64.wrap ((j116.2.2.length : Int) - 1))).f2)), .sc (.int .i64 ((rd z84 j116.2.2 (IntKind.i64.wrap ((j116.2.2.length : Int) - 1))).f3)), .sc (.int .i64 ((rd z84 j116.2.2 (IntKind.i64.wrap ((j116.2.2.length : Int) - 1))).f4))] := (Vw.whole c84_w j116.2.2).stretch z84 b169.1 b169.2
     simp +decide only [reduceAdd, reduceMul, reduceToNat, ak, b169, g170]
     refine hJ168 _ ?_
     refine sr_k fun J171 hJ171 => ?_
     simp +decide only [reduceAdd, reduceMul, reduceToNat, ak]
     refine hJ171 _ ?_
     refine reg_k ?_
     simp +decide only [reduceAdd, reduceMul, reduceToNat, ak]
     obtain rfl := Option.some.inj h
     refine G165n _ _ (wk [2, 3, 4] [pI (.arg 0) .fz, pI (.tmp 2 0) .box, pI (.tmp 3 0) .box, pI (.tmp 4 0) .box]) (hJ164 _ rfl)
    ·replace c167 := of_decide_eq_false c167; rw [if_neg c167] at h
     obtain rfl := Option.some.inj h
     refine G165n _ _ (wk [2, 3, 4] [pI (.arg 0) .fz, pI (.tmp 2 0) .box, pI (.tmp 3 0) .box, pI (.tmp 4 0) .box]) (hJ164 _ rfl)
   ·replace h := hn; clear hn h163
    rintro _ rfl
    refine sd_k fun J172 hJ172 => ?_
    simp +decide only [reduceAdd, reduceMul, reduceToNat, ak]
    obtain ⟨t173, h174, h⟩ := of_bind h
    obtain ⟨t176, h177, h⟩ := of_bind h
    refine alt_e ?_
    ·simp +decide only [reduceAdd, reduceMul, reduceToNat, ak]
     refine cm [pN (.arg 0) (.tmp 3 0) .box, pN (.arg 1) (.arg 0) .fz] (spec_l1Next.tri (cs0) o0 l0 hv0 j140.1 j140.2.1 3 _ h174) (fun hl179 => ?_)
     refine cs (mW [.ref (.arg 0) [] o0 l0.length, .sc (.int .i64 t173.2.1), .sc (.int .u64 t173.2.2)] (mF (mN ..))) ?_ (s4 := [(.arg 0, ⟨.fz, 1, cs0⟩), (.tmp 2 0, ⟨.box, 0, [.sc (.int .i64 0), .sc (.int .i64 0), .own 1 (([] : List Int).length) (encL c_i64 ([] : List Int)), .own 3 (([] : List S86).length) (encL c86 ([] : List S86)), .own 5 (([] : List S84).length) (encL c84 ([] : List S84)), .sc (.int .i64 0), .sc (.int .u64 0), .sc (.int .u64 0), .sc (.int .u64 0), .sc (.int .i64 0), .sc (.int .i64 0), .sc (.int .i64 0)]⟩), (.tmp 3 0, ⟨.box, 0, [.ref (.arg 0) [] o0 l0.length, .sc (.int .i64 t173.2.1), .sc (.int .u64 t173.2.2)]⟩), (.tmp 4 0, ⟨.box, 0, [.sc (.int .i64 (IntKind.i64.wrap (1 + t7.1))), .sc (.int .i64 t26.1), .own 1 y114.2.2.length (encL c_i64 y114.2.2), .own 3 t10.1.length (encL c86 t10.1), .own 5 j116.2.2.length (encL c84 j116.2.2), .sc (.int .i64 j140.2.2), .sc (.int .u64 j162.1), .sc (.int .u64 0), .sc (.int .u64 0), .sc (.int .i64 0), .sc (.int .i64 j162.2), .sc (.int .i64 (IntKind.i64.wrap (1 + t19.1)))]⟩)])
     simp +decide only [reduceAdd, reduceMul, reduceToNat, ak]
     refine alt_e ?_
     ·simp +decide only [reduceAdd, reduceMul, reduceToNat, ak]
      refine cm [pN (.arg 0) (.tmp 3 0) .box, pN (.arg 1) (.arg 0) .fz] (spec_l1Next.tri (cs0) o0 l0 hv0 t173.2.1 t173.2.2 40 _ h177) (fun hl181 => ?_)
      refine cs (mW [.ref (.arg 0) [] o0 l0.length, .sc (.int .i64 t176.2.1), .sc (.int .u64 t176.2.2)] (mF (mN ..))) ?_ (s4 := [(.arg 0, ⟨.fz, 1, cs0⟩), (.tmp 2 0, ⟨.box, 0, [.sc (.int .i64 0), .sc (.int .i64 0), .own 1 (([] : List Int).length) (encL c_i64 ([] : List Int)), .own 3 (([] : List S86).length) (encL c86 ([] : List S86)), .own 5 (([] : List S84).length) (encL c84 ([] : List S84)), .sc (.int .i64 0), .sc (.int .u64 0), .sc (.int .u64 0), .sc (.int .u64 0), .sc (.int .i64 0), .sc (.int .i64 0), .sc (.int .i64 0)]⟩), (.tmp 3 0, ⟨.box, 0, [.ref (.arg 0) [] o0 l0.length, .sc (.int .i64 t176.2.1), .sc (.int .u64 t176.2.2)]⟩), (.tmp 4 0, ⟨.box, 0, [.sc (.int .i64 (IntKind.i64.wrap (1 + t7.1))), .sc (.int .i64 t26.1), .own 1 y114.2.2.length (encL c_i64 y114.2.2), .own 3 t10.1.length (encL c86 t10.1), .own 5 j116.2.2.length (encL c84 j116.2.2), .sc (.int .i64 j140.2.2), .sc (.int .u64 j162.1), .sc (.int .u64 0), .sc (.int .u64 0), .sc (.int .i64 0), .sc (.int .i64 j162.2), .sc (.int .i64 (IntKind.i64.wrap (1 + t19.1)))]⟩)])
      simp +decide only [reduceAdd, reduceMul, reduceToNat, ak]
      refine alt_e ?_
      ·simp +decide only [reduceAdd, reduceMul, reduceToNat, ak]
       refine hJ172 _ ?_
       refine sd_k fun J183 hJ183 => ?_
       simp +decide only [reduceAdd, reduceMul, reduceToNat, ak]
       obtain ⟨t184, h185, h⟩ := of_bind h
       obtain ⟨t187, h188, h⟩ := of_bind h
       refine alt_e ?_
       ·simp +decide only [reduceAdd, reduceMul, reduceToNat, ak]
        refine cm [pN (.arg 0) (.tmp 3 0) .box, pN (.arg 1) (.arg 0) .fz] (spec_l1Next.tri (cs0) o0 l0 hv0 t176.2.1 t176.2.2 3 _ h185) (fun hl190 => ?_)
        refine cs (mW [.ref (.arg 0) [] o0 l0.length, .sc (.int .i64 t184.2.1), .sc (.int .u64 t184.2.2)] (mF (mN ..))) ?_ (s4 := [(.arg 0, ⟨.fz, 1, cs0⟩), (.tmp 2 0, ⟨.box, 0, [.sc (.int .i64 0), .sc (.int .i64 0), .own 1 (([] : List Int).length) (encL c_i64 ([] : List Int)), .own 3 (([] : List S86).length) (encL c86 ([] : List S86)), .own 5 (([] : List S84).length) (encL c84 ([] : List S84)), .sc (.int .i64 0), .sc (.int .u64 0), .sc (.int .u64 0), .sc (.int .u64 0), .sc (.int .i64 0), .sc (.int .i64 0), .sc (.int .i64 0)]⟩), (.tmp 3 0, ⟨.box, 0, [.ref (.arg 0) [] o0 l0.length, .sc (.int .i64 t184.2.1), .sc (.int .u64 t184.2.2)]⟩), (.tmp 4 0, ⟨.box, 0, [.sc (.int .i64 (IntKind.i64.wrap (1 + t7.1))), .sc (.int .i64 t26.1), .own 1 y114.2.2.length (encL c_i64 y114.2.2), .own 3 t10.1.length (encL c86 t10.1), .own 5 j116.2.2.length (encL c84 j116.2.2), .sc (.int .i64 j140.2.2), .sc (.int .u64 j162.1), .sc (.int .u64 (IntKind.u64.wrap (j162.1 + (IntKind.u64.wrap (IntKind.i64.wrap (t173.1 * t176.1)))))), .sc (.int .u64 0), .sc (.int .i64 0), .sc (.int .i64 j162.2), .sc (.int .i64 (IntKind.i64.wrap (1 + t19.1)))]⟩)])
        simp +decide only [reduceAdd, reduceMul, reduceToNat, ak]
        refine alt_e ?_
        ·simp +decide only [reduceAdd, reduceMul, reduceToNat, ak]
         refine cm [pN (.arg 0) (.tmp 3 0) .box, pN (.arg 1) (.arg 0) .fz] (spec_l1Next.tri (cs0) o0 l0 hv0 t184.2.1 t184.2.2 40 _ h188) (fun hl192 => ?_)
         refine cs (mW [.ref (.arg 0) [] o0 l0.length, .sc (.int .i64 t187.2.1), .sc (.int .u64 t187.2.2)] (mF (mN ..))) ?_ (s4 := [(.arg 0, ⟨.fz, 1, cs0⟩), (.tmp 2 0, ⟨.box, 0, [.sc (.int .i64 0), .sc (.int .i64 0), .own 1 (([] : List Int).length) (encL c_i64 ([] : List Int)), .own 3 (([] : List S86).length) (encL c86 ([] : List S86)), .own 5 (([] : List S84).length) (encL c84 ([] : List S84)), .sc (.int .i64 0), .sc (.int .u64 0), .sc (.int .u64 0), .sc (.int .u64 0), .sc (.int .i64 0), .sc (.int .i64 0), .sc (.int .i64 0)]⟩), (.tmp 3 0, ⟨.box, 0, [.ref (.arg 0) [] o0 l0.length, .sc (.int .i64 t187.2.1), .sc (.int .u64 t187.2.2)]⟩), (.tmp 4 0, ⟨.box, 0, [.sc (.int .i64 (IntKind.i64.wrap (1 + t7.1))), .sc (.int .i64 t26.1), .own 1 y114.2.2.length (encL c_i64 y114.2.2), .own 3 t10.1.length (encL c86 t10.1), .own 5 j116.2.2.length (encL c84 j116.2.2), .sc (.int .i64 j140.2.2), .sc (.int .u64 j162.1), .sc (.int .u64 (IntKind.u64.wrap (j162.1 + (IntKind.u64.wrap (IntKind.i64.wrap (t173.1 * t176.1)))))), .sc (.int .u64 0), .sc (.int .i64 0), .sc (.int .i64 j162.2), .sc (.int .i64 (IntKind.i64.wrap (1 + t19.1)))]⟩)])
         simp +decide only [reduceAdd, reduceMul, reduceToNat, ak]
         refine alt_e ?_
         ·simp +decide only [reduceAdd, reduceMul, reduceToNat, ak]
          refine hJ183 _ ?_
          refine sr_k fun J194 hJ194 => ?_
          simp +decide only [reduceAdd, reduceMul, reduceToNat, ak]
          obtain ⟨t195, h196, h⟩ := of_bind h
          refine cm [pN (.arg 0) (.tmp 3 0) .box, pN (.arg 1) (.arg 0) .fz] (spec_l1Next.tri (cs0) o0 l0 hv0 t187.2.1 t187.2.2 2 _ h196) (fun hl196 => ?_)
          refine cs (mW [.ref (.arg 0) [] o0 l0.length, .sc (.int .i64 t195.2.1), .sc (.int .u64 t195.2.2)] (mF (mN ..))) ?_ (s4 := [(.arg 0, ⟨.fz, 1, cs0⟩), (.tmp 2 0, ⟨.box, 0, [.sc (.int .i64 0), .sc (.int .i64 0), .own 1 (([] : List Int).length) (encL c_i64 ([] : List Int)), .own 3 (([] : List S86).length) (encL c86 ([] : List S86)), .own 5 (([] : List S84).length) (encL c84 ([] : List S84)), .sc (.int .i64 0), .sc (.int .u64 0), .sc (.int .u64 0), .sc (.int .u64 0), .sc (.int .i64 0), .sc (.int .i64 0), .sc (.int .i64 0)]⟩), (.tmp 3 0, ⟨.box, 0, [.ref (.arg 0) [] o0 l0.length, .sc (.int .i64 t195.2.1), .sc (.int .u64 t195.2.2)]⟩), (.tmp 4 0, ⟨.box, 0, [.sc (.int .i64 (IntKind.i64.wrap (1 + t7.1))), .sc (.int .i64 t26.1), .own 1 y114.2.2.length (encL c_i64 y114.2.2), .own 3 t10.1.length (encL c86 t10.1), .own 5 j116.2.2.length (encL c84 j116.2.2), .sc (.int .i64 j140.2.2), .sc (.int .u64 j162.1), .sc (.int .u64 (IntKind.u64.wrap (j162.1 + (IntKind.u64.wrap (IntKind.i64.wrap (t173.1 * t176.1)))))), .sc (.int .u64 (IntKind.u64.wrap (j162.1 + (IntKind.u64.wrap (IntKind.i64.wrap (t184.1 * t187.1)))))), .sc (.int .i64 0), .sc (.int .i64 j162.2), .sc (.int .i64 (IntKind.i64.wrap (1 + t19.1)))]⟩)])
          simp +decide only [reduceAdd, reduceMul, reduceToNat, ak]
          refine hJ194 _ ?_
          obtain ⟨j198, h199, hn⟩ := of_bind h
          refine seq_j (fun st => st = ⟨[(2, .c (.ptr (.tmp 2 0) [] 0)), (4, .c (.ptr (.tmp 4 0) [] 0))], [(.arg 0, ⟨.fz, 1, cs0⟩), (.tmp 2 0, ⟨.box, 0, [.sc (.int .i64 0), .sc (.int .i64 0), .own 1 (([] : List Int).length) (encL c_i64 ([] : List Int)), .own 3 (([] : List S86).length) (encL c86 ([] : List S86)), .own 5 (([] : List S84).length) (encL c84 ([] : List S84)), .sc (.int .i64 0), .sc (.int .u64 0), .sc (.int .u64 0), .sc (.int .u64 0), .sc (.int .i64 0), .sc (.int .i64 0), .sc (.int .i64 0)]⟩), (.tmp 4 0, ⟨.box, 0, [.sc (.int .i64 j198.1), .sc (.int .i64 j198.2.1), .own 1 j198.2.2.1.length (encL c_i64 j198.2.2.1), .own 3 t10.1.length (encL c86 t10.1), .own 5 j198.2.2.2.1.length (encL c84 j198.2.2.2.1), .sc (.int .i64 j198.2.2.2.2.1), .sc (.int .u64 j162.1), .sc (.int .u64 j198.2.2.2.2.2.1), .sc (.int .u64 j198.2.2.2.2.2.2.1), .sc (.int .i64 j198.2.2.2.2.2.2.2.1), .sc (.int .i64 j162.2), .sc (.int .i64 j198.2.2.2.2.2.2.2.2)]⟩)], [], []⟩) (fun J200 hJ200 => ?_) ?_
          ·replace h := h199; clear hn
           refine ga_k fun G201 G201n G201r G201x => ?_
           refine sr_k fun J202 hJ202 => ?_
           simp +decide only [reduceAdd, reduceMul, reduceToNat, ak]
           obtain ⟨t203, h204, h⟩ := of_bind h
           refine cm [pN (.arg 0) (.tmp 3 0) .box, pN (.arg 1) (.arg 0) .fz] (spec_l1Next.tri (cs0) o0 l0 hv0 t195.2.1 t195.2.2 40 _ h204) (fun hl204 => ?_)
           refine cs (mW [.ref (.arg 0) [] o0 l0.length, .sc (.int .i64 t203.2.1), .sc (.int .u64 t203.2.2)] (mF (mN ..))) ?_ (s4 := [(.arg 0, ⟨.fz, 1, cs0⟩), (.tmp 2 0, ⟨.box, 0, [.sc (.int .i64 0), .sc (.int .i64 0), .own 1 (([] : List Int).length) (encL c_i64 ([] : List Int)), .own 3 (([] : List S86).length) (encL c86 ([] : List S86)), .own 5 (([] : List S84).length) (encL c84 ([] : List S84)), .sc (.int .i64 0), .sc (.int .u64 0), .sc (.int .u64 0), .sc (.int .u64 0), .sc (.int .i64 0), .sc (.int .i64 0), .sc (.int .i64 0)]⟩), (.tmp 3 0, ⟨.box, 0, [.ref (.arg 0) [] o0 l0.length, .sc (.int .i64 t203.2.1), .sc (.int .u64 t203.2.2)]⟩), (.tmp 4 0, ⟨.box, 0, [.sc (.int .i64 (IntKind.i64.wrap (1 + t7.1))), .sc (.int .i64 t26.1), .own 1 y114.2.2.length (encL c_i64 y114.2.2), .own 3 t10.1.length (encL c86 t10.1), .own 5 j116.2.2.length (encL c84 j116.2.2), .sc (.int .i64 j140.2.2), .sc (.int .u64 j162.1), .sc (.int .u64 (IntKind.u64.wrap (j162.1 + (IntKind.u64.wrap (IntKind.i64.wrap (t173.1 * t176.1)))))), .sc (.int .u64 (IntKind.u64.wrap (j162.1 + (IntKind.u64.wrap (IntKind.i64.wrap (t184.1 * t187.1)))))), .sc (.int .i64 t195.1), .sc (.int .i64 j162.2), .sc (.int .i64 (IntKind.i64.wrap (1 + t19.1)))]⟩)])
           simp +decide only [reduceAdd, reduceMul, reduceToNat, ak]
           refine hJ202 _ ?_
           refine block_k fun B206 B206n B206x B206r B206j => ?_
           refine sr_k fun J207 hJ207 => ?_
           simp +decide only [reduceAdd, reduceMul, reduceToNat, ak]
           refine hJ207 _ ?_
           refine cond_k (b := decide (t203.1 = 0)) rfl (fun c208 => ?_) (fun c208 => ?_)
           ·replace c208 := of_decide_eq_true c208; rw [if_pos c208] at h
            refine reg_k ?_
            simp +decide only [reduceAdd, reduceMul, reduceToNat, ak]
            obtain ⟨t209, h210, h⟩ := of_bind h
            refine cm [pN (.arg 0) (.tmp 3 0) .box, pN (.arg 1) (.arg 0) .fz] (spec_l1Next.tri (cs0) o0 l0 hv0 t203.2.1 t203.2.2 2 _ h210) (fun hl210 => ?_)
            refine cs (mW [.ref (.arg 0) [] o0 l0.length, .sc (.int .i64 t209.2.1), .sc (.int .u64 t209.2.2)] (mF (mN ..))) ?_ (s4 := [(.arg 0, ⟨.fz, 1, cs0⟩), (.tmp 2 0, ⟨.box, 0, [.sc (.int .i64 0), .sc (.int .i64 0), .own 1 (([] : List Int).length) (encL c_i64 ([] : List Int)), .own 3 (([] : List S86).length) (encL c86 ([] : List S86)), .own 5 (([] : List S84).length) (encL c84 ([] : List S84)), .sc (.int .i64 0), .sc (.int .u64 0), .sc (.int .u64 0), .sc (.int .u64 0), .sc (.int .i64 0), .sc (.int .i64 0), .sc (.int .i64 0)]⟩), (.tmp 3 0, ⟨.box, 0, [.ref (.arg 0) [] o0 l0.length, .sc (.int .i64 t209.2.1), .sc (.int .u64 t209.2.2)]⟩), (.tmp 4 0, ⟨.box, 0, [.sc (.int .i64 (IntKind.i64.wrap (1 + t7.1))), .sc (.int .i64 t26.1), .own 1 y114.2.2.length (encL c_i64 y114.2.2), .own 3 t10.1.length (encL c86 t10.1), .own 5 j116.2.2.length (encL c84 j116.2.2), .sc (.int .i64 j140.2.2), .sc (.int .u64 j162.1), .sc (.int .u64 (IntKind.u64.wrap (j162.1 + (IntKind.u64.wrap (IntKind.i64.wrap (t173.1 * t176.1)))))), .sc (.int .u64 (IntKind.u64.wrap (j162.1 + (IntKind.u64.wrap (IntKind.i64.wrap (t184.1 * t187.1)))))), .sc (.int .i64 t195.1), .sc (.int .i64 j162.2), .sc (.int .i64 (IntKind.i64.wrap (1 + t19.1)))]⟩)])
            simp +decide only [reduceAdd, reduceMul, reduceToNat, ak]
            refine B206n _ ?_
            obtain rfl := Option.some.inj h
            refine G201n _ _ (wk [2, 4] [pI (.arg 0) .fz, pI (.tmp 2 0) .box, pI (.tmp 4 0) .box]) (hJ200 _ rfl)
           ·replace c208 := of_decide_eq_false c208; rw [if_neg c208] at h
            refine sr_k fun J212 hJ212 => ?_
            simp +decide only [reduceAdd, reduceMul, reduceToNat, ak]
            refine hJ212 _ ?_
            refine cond_k (b := decide (t203.1 = 1)) rfl (fun c213 => ?_) (fun c213 => ?_)
            ·replace c213 := of_decide_eq_true c213; rw [if_pos c213] at h
             refine reg_k ?_
             simp +decide only [reduceAdd, reduceMul, reduceToNat, ak]
             refine B206n _ ?_
             obtain rfl := Option.some.inj h
             refine G201n _ _ (wk [2, 4] [pI (.arg 0) .fz, pI (.tmp 2 0) .box, pI (.tmp 4 0) .box]) (hJ200 _ rfl)
            ·replace c213 := of_decide_eq_false c213; rw [if_neg c213] at h
             refine sr_k fun J214 hJ214 => ?_
             simp +decide only [reduceAdd, reduceMul, reduceToNat, ak]
             refine hJ214 _ ?_
             refine cond_k (b := decide (t203.1 = 2)) rfl (fun c215 => ?_) (fun c215 => ?_)
             ·replace c215 := of_decide_eq_true c215; rw [if_pos c215] at h
              refine reg_k ?_
              simp +decide only [reduceAdd, reduceMul, reduceToNat, ak]
              refine B206n _ ?_
              obtain rfl := Option.some.inj h
              refine G201n _ _ (wk [2, 4] [pI (.arg 0) .fz, pI (.tmp 2 0) .box, pI (.tmp 4 0) .box]) (hJ200 _ rfl)
             ·replace c215 := of_decide_eq_false c215; rw [if_neg c215] at h
              refine sr_k fun J216 hJ216 => ?_
              simp +decide only [reduceAdd, reduceMul, reduceToNat, ak]
              refine hJ216 _ ?_
              refine cond_k (b := decide (t203.1 = 3)) rfl (fun c217 => ?_) (fun c217 => ?_)
              ·replace c217 := of_decide_eq_true c217; rw [if_pos c217] at h
               refine reg_k ?_
               simp +decide only [reduceAdd, reduceMul, reduceToNat, ak]
               refine B206n _ ?_
               obtain rfl := Option.some.inj h
               refine G201n _ _ (wk [2, 4] [pI (.arg 0) .fz, pI (.tmp 2 0) .box, pI (.tmp 4 0) .box]) (hJ200 _ rfl)
              ·replace c217 := of_decide_eq_false c217; rw [if_neg c217] at h
               refine sr_k fun J218 hJ218 => ?_
               simp +decide only [reduceAdd, reduceMul, reduceToNat, ak]
               refine hJ218 _ ?_
               refine cond_k (b := decide (t203.1 = 4)) rfl (fun c219 => ?_) (fun c219 => ?_)
               ·replace c219 := of_decide_eq_true c219; rw [if_pos c219] at h
                refine reg_k ?_
                simp +decide only [reduceAdd, reduceMul, reduceToNat, ak]
                refine B206n _ ?_
                obtain rfl := Option.some.inj h
                refine G201n _ _ (wk [2, 4] [pI (.arg 0) .fz, pI (.tmp 2 0) .box, pI (.tmp 4 0) .box]) (hJ200 _ rfl)
               ·replace c219 := of_decide_eq_false c219; rw [if_neg c219] at h
                refine sr_k fun J220 hJ220 => ?_
                simp +decide only [reduceAdd, reduceMul, reduceToNat, ak]
                refine hJ220 _ ?_
                refine cond_k (b := decide (t203.1 = 5)) rfl (fun c221 => ?_) (fun c221 => ?_)
                ·replace c221 := of_decide_eq_true c221; rw [if_pos c221] at h
                 refine reg_k ?_
                 simp +decide only [reduceAdd, reduceMul, reduceToNat, ak]
                 refine B206n _ ?_
                 obtain rfl := Option.some.inj h
                 refine G201n _ _ (wk [2, 4] [pI (.arg 0) .fz, pI (.tmp 2 0) .box, pI (.tmp 4 0) .box]) (hJ200 _ rfl)
                ·replace c221 := of_decide_eq_false c221; rw [if_neg c221] at h
                 refine sr_k fun J222 hJ222 => ?_
                 simp +decide only [reduceAdd, reduceMul, reduceToNat, ak]
                 refine hJ222 _ ?_
                 refine cond_k (b := decide (t203.1 = 6)) rfl (fun c223 => ?_) (fun c223 => ?_)
                 ·replace c223 := of_decide_eq_true c223; rw [if_pos c223] at h
                  refine reg_k ?_
                  simp +decide only [reduceAdd, reduceMul, reduceToNat, ak]
                  refine B206n _ ?_
                  obtain rfl := Option.some.inj h
                  refine G201n _ _ (wk [2, 4] [pI (.arg 0) .fz, pI (.tmp 2 0) .box, pI (.tmp 4 0) .box]) (hJ200 _ rfl)
                 ·replace c223 := of_decide_eq_false c223; rw [if_neg c223] at h
                  refine sr_k fun J224 hJ224 => ?_
                  simp +decide only [reduceAdd, reduceMul, reduceToNat, ak]
                  refine hJ224 _ ?_
                  refine cond_k (b := decide (t203.1 = 7)) rfl (fun c225 => ?_) (fun c225 => ?_)
                  ·replace c225 := of_decide_eq_true c225; rw [if_pos c225] at h
                   refine reg_k ?_
                   have g226 : (encL c84 j116.2.2).length = j116.2.2.length * 5 := by simp [encL_length c84_w]
                   simp +decide only [reduceAdd, reduceMul, reduceToNat, ak, g226]
                   refine gho_k (Weak.take1 (st' := ⟨[(2, .c (.ptr (.tmp 2 0) [] 0)), (3, .c (.ptr (.tmp 3 0) [] 0)), (4, .c (.ptr (.tmp 4 0) [] 0)), (111, .c (.sc (.int .i64 t203.1))), (141, .c (.sc (.bool (decide (t203.1 = 7))))), (143, .c (.ptr (.tmp 4 0) [] 4)), (144, .c (.ref (.tmp 144 60) [] 0 j116.2.2.length))], [(.arg 0, ⟨.fz, 1, cs0⟩), (.tmp 2 0, ⟨.box, 0, [.sc (.int .i64 0), .sc (.int .i64 0), .own 1 (([] : List Int).length) (encL c_i64 ([] : List Int)), .own 3 (([] : List S86).length) (encL c86 ([] : List S86)), .own 5 (([] : List S84).length) (encL c84 ([] : List S84)), .sc (.int .i64 0), .sc (.int .u64 0), .sc (.int .u64 0), .sc (.int .u64 0), .sc (.int .i64 0), .sc (.int .i64 0), .sc (.int .i64 0)]⟩), (.tmp 3 0, ⟨.box, 0, [.ref (.arg 0) [] o0 l0.length, .sc (.int .i64 t203.2.1), .sc (.int .u64 t203.2.2)]⟩), (.tmp 4 0, ⟨.box, 0, [.sc (.int .i64 (IntKind.i64.wrap (1 + t7.1))), .sc (.int .i64 t26.1), .own 1 y114.2.2.length (encL c_i64 y114.2.2), .own 3 t10.1.length (encL c86 t10.1), .dead, .sc (.int .i64 j140.2.2), .sc (.int .u64 j162.1), .sc (.int .u64 (IntKind.u64.wrap (j162.1 + (IntKind.u64.wrap (IntKind.i64.wrap (t173.1 * t176.1)))))), .sc (.int .u64 (IntKind.u64.wrap (j162.1 + (IntKind.u64.wrap (IntKind.i64.wrap (t184.1 * t187.1)))))), .sc (.int .i64 t195.1), .sc (.int .i64 j162.2), .sc (.int .i64 (IntKind.i64.wrap (1 + t19.1)))]⟩), (.tmp 144 60, ⟨.lst, 5, encL c84 j116.2.2⟩)], [], []⟩) 144 (.tmp 144 60) (.tmp 4 0) [] 4 j116.2.2.length rfl rfl (by decide) rfl rfl rfl (by first | rfl | simp +decide only [St.takeB, ak, akF])) ?_
                   simp +decide only [reduceAdd, reduceMul, reduceToNat, ak]
                   obtain ⟨t227, h228, h⟩ := of_bind h
                   refine cm [pN (.arg 0) (.tmp 3 0) .box, pN (.arg 1) (.arg 0) .fz, pN (.arg 2) (.tmp 144 60) .lst] (spec_l6SpoilMaps.tri (cs0) o0 l0 hv0 t203.2.1 t203.2.2 j116.2.2 _ h228) (fun hl228 => ?_)
                   refine call_st (s2 := [(.arg 0, ⟨.fz, 1, cs0⟩), (.tmp 2 0, ⟨.box, 0, [.sc (.int .i64 0), .sc (.int .i64 0), .own 1 (([] : List Int).length) (encL c_i64 ([] : List Int)), .own 3 (([] : List S86).length) (encL c86 ([] : List S86)), .own 5 (([] : List S84).length) (encL c84 ([] : List S84)), .sc (.int .i64 0), .sc (.int .u64 0), .sc (.int .u64 0), .sc (.int .u64 0), .sc (.int .i64 0), .sc (.int .i64 0), .sc (.int .i64 0)]⟩), (.tmp 3 0, ⟨.box, 0, [.ref (.arg 0) [] o0 l0.length, .sc (.int .i64 t203.2.1), .sc (.int .u64 t203.2.2)]⟩), (.tmp 4 0, ⟨.box, 0, [.sc (.int .i64 (IntKind.i64.wrap (1 + t7.1))), .sc (.int .i64 t26.1), .own 1 y114.2.2.length (encL c_i64 y114.2.2), .own 3 t10.1.length (encL c86 t10.1), .dead, .sc (.int .i64 j140.2.2), .sc (.int .u64 j162.1), .sc (.int .u64 (IntKind.u64.wrap (j162.1 + (IntKind.u64.wrap (IntKind.i64.wrap (t173.1 * t176.1)))))), .sc (.int .u64 (IntKind.u64.wrap (j162.1 + (IntKind.u64.wrap (IntKind.i64.wrap (t184.1 * t187.1)))))), .sc (.int .i64 t195.1), .sc (.int .i64 j162.2), .sc (.int .i64 (IntKind.i64.wrap (1 + t19.1)))]⟩), (.tmp 144 60, ⟨.lst, 5, encL c84 j116.2.2⟩)]) (s4 := [(.arg 0, ⟨.fz, 1, cs0⟩), (.tmp 2 0, ⟨.box, 0, [.sc (.int .i64 0), .sc (.int .i64 0), .own 1 (([] : List Int).length) (encL c_i64 ([] : List Int)), .own 3 (([] : List S86).length) (encL c86 ([] : List S86)), .own 5 (([] : List S84).length) (encL c84 ([] : List S84)), .sc (.int .i64 0), .sc (.int .u64 0), .sc (.int .u64 0), .sc (.int .u64 0), .sc (.int .i64 0), .sc (.int .i64 0), .sc (.int .i64 0)]⟩), (.tmp 3 0, ⟨.box, 0, [.ref (.arg 0) [] o0 l0.length, .sc (.int .i64 t227.1), .sc (.int .u64 t227.2.1)]⟩), (.tmp 4 0, ⟨.box, 0, [.sc (.int .i64 (IntKind.i64.wrap (1 + t7.1))), .sc (.int .i64 t26.1), .own 1 y114.2.2.length (encL c_i64 y114.2.2), .own 3 t10.1.length (encL c86 t10.1), .dead, .sc (.int .i64 j140.2.2), .sc (.int .u64 j162.1), .sc (.int .u64 (IntKind.u64.wrap (j162.1 + (IntKind.u64.wrap (IntKind.i64.wrap (t173.1 * t176.1)))))), .sc (.int .u64 (IntKind.u64.wrap (j162.1 + (IntKind.u64.wrap (IntKind.i64.wrap (t184.1 * t187.1)))))), .sc (.int .i64 t195.1), .sc (.int .i64 j162.2), .sc (.int .i64 (IntKind.i64.wrap (1 + t19.1)))]⟩), (.tmp 144 60, ⟨.lst, 5, encL c84 t227.2.2⟩)]) (t' := [(2, .c (.ptr (.tmp 2 0) [] 0)), (3, .c (.ptr (.tmp 3 0) [] 0)), (4, .c (.ptr (.tmp 4 0) [] 0)), (111, .c (.sc (.int .i64 t203.1))), (141, .c (.sc (.bool (decide (t203.1 = 7))))), (143, .c (.ptr (.tmp 4 0) [] 4)), (144, .c (.dead))]) (m1' := []) (m2' := []) (v' := .c (.ref (.tmp 144 60) [] 0 t227.2.2.length)) (by first | rfl | simp only [reduceCtorEq, Nat.reduceEqDiff, ak, akF, List.contains_nil, List.contains_cons, Nat.reduceBEq]) (mrgL_whole (new' := [.ref (.arg 0) [] o0 l0.length, .sc (.int .i64 t227.1), .sc (.int .u64 t227.2.1)]) (mrgL_fz (mrgL_whole (mrgL_nil' _ _ _) rfl (by rfl) (.inr ⟨by decide, by decide, rfl⟩)) rfl (by first | rfl | simp only [reduceCtorEq, Nat.reduceEqDiff, ak, g22, g23, g24, g226]) rfl (by intro R hR hh; cases hR; cases hh.2)) rfl (by rfl) (.inl ⟨rfl, by first | rfl | simp only [reduceCtorEq, Nat.reduceEqDiff, ak, akF, Nat.zero_add, List.append_nil]⟩)) (by rfl) (by first | rfl | simp only [reduceCtorEq, Nat.reduceEqDiff, ak, akF, List.contains_nil, List.contains_cons, Nat.reduceBEq]) (by rfl) (by rfl) (by first | rfl | simp only [reduceCtorEq, Nat.reduceEqDiff, ak, akF, Nat.zero_add, List.append_nil]) ?_
                   have g230 : (encL c84 t227.2.2).length = t227.2.2.length * 5 := by simp [encL_length c84_w]
                   simp +decide only [reduceAdd, reduceMul, reduceToNat, ak, g230]
                   refine B206n _ ?_
                   obtain rfl := Option.some.inj h
                   refine G201n _ _ (wk [2, 4] [pI (.arg 0) .fz, pI (.tmp 2 0) .box, pI (.tmp 4 0) .box]) (hJ200 _ rfl)
                  ·replace c225 := of_decide_eq_false c225; rw [if_neg c225] at h
                   refine sr_k fun J231 hJ231 => ?_
                   simp +decide only [reduceAdd, reduceMul, reduceToNat, ak]
                   refine hJ231 _ ?_
                   refine cond_k (b := decide (t203.1 = 8)) rfl (fun c232 => ?_) (fun c232 => ?_)
                   ·replace c232 := of_decide_eq_true c232; rw [if_pos c232] at h
                    refine seq_k fun J233 hJ233 => ?_
                    refine block_k fun B234 B234n B234x B234r B234j => ?_
                    obtain ⟨y249, h250, h⟩ := of_bind h
                    refine gh_k (wk [2, 3, 4] [pI (.arg 0) .fz, pI (.tmp 2 0) .box, pI (.tmp 3 0) .box, pI (.tmp 4 0) .box]) ?_
                    rw [e_loop]
                    refine spec_DrawPlanSend.l2_walk cs0 o0 l0 hv0 0 0 ([] : List Int) ([] : List S86) ([] : List S84) 0 0 0 0 0 0 0 t203.2.1 t203.2.2 (IntKind.i64.wrap (1 + t7.1)) t26.1 t10.1 j116.2.2 j140.2.2 j162.1 (IntKind.u64.wrap (j162.1 + (IntKind.u64.wrap (IntKind.i64.wrap (t173.1 * t176.1))))) (IntKind.u64.wrap (j162.1 + (IntKind.u64.wrap (IntKind.i64.wrap (t184.1 * t187.1))))) t195.1 j162.2 (IntKind.i64.wrap (1 + t19.1)) y114.2.2 _ h250 _ ?_
                    refine B234x _ ?_
                    refine hJ233 _ ?_
                    refine sr_k fun J251 hJ251 => ?_
                    simp +decide only [reduceAdd, reduceMul, reduceToNat, ak]
                    obtain ⟨t252, h253, h⟩ := of_bind h
                    refine cm [pN (.arg 0) (.tmp 3 0) .box, pN (.arg 1) (.arg 0) .fz] (spec_l1Next.tri (cs0) o0 l0 hv0 t203.2.1 t203.2.2 2 _ h253) (fun hl253 => ?_)
                    refine cs (mW [.ref (.arg 0) [] o0 l0.length, .sc (.int .i64 t252.2.1), .sc (.int .u64 t252.2.2)] (mF (mN ..))) ?_ (s4 := [(.arg 0, ⟨.fz, 1, cs0⟩), (.tmp 2 0, ⟨.box, 0, [.sc (.int .i64 0), .sc (.int .i64 0), .own 1 (([] : List Int).length) (encL c_i64 ([] : List Int)), .own 3 (([] : List S86).length) (encL c86 ([] : List S86)), .own 5 (([] : List S84).length) (encL c84 ([] : List S84)), .sc (.int .i64 0), .sc (.int .u64 0), .sc (.int .u64 0), .sc (.int .u64 0), .sc (.int .i64 0), .sc (.int .i64 0), .sc (.int .i64 0)]⟩), (.tmp 3 0, ⟨.box, 0, [.ref (.arg 0) [] o0 l0.length, .sc (.int .i64 t252.2.1), .sc (.int .u64 t252.2.2)]⟩), (.tmp 4 0, ⟨.box, 0, [.sc (.int .i64 (IntKind.i64.wrap (1 + t7.1))), .sc (.int .i64 t26.1), .own 1 y249.length (encL c_i64 y249), .own 3 t10.1.length (encL c86 t10.1), .own 5 j116.2.2.length (encL c84 j116.2.2), .sc (.int .i64 j140.2.2), .sc (.int .u64 j162.1), .sc (.int .u64 (IntKind.u64.wrap (j162.1 + (IntKind.u64.wrap (IntKind.i64.wrap (t173.1 * t176.1)))))), .sc (.int .u64 (IntKind.u64.wrap (j162.1 + (IntKind.u64.wrap (IntKind.i64.wrap (t184.1 * t187.1)))))), .sc (.int .i64 t195.1), .sc (.int .i64 j162.2), .sc (.int .i64 (IntKind.i64.wrap (1 + t19.1)))]⟩)])
                    simp +decide only [reduceAdd, reduceMul, reduceToNat, ak]
                    refine hJ251 _ ?_
                    refine cond_k (b := decide (t252.1 = 0)) rfl (fun c255 => ?_) (fun c255 => ?_)
                    ·replace c255 := of_decide_eq_true c255; rw [if_pos c255] at h
                     refine reg_k ?_
                     have g256 : (List.replicate 1 ([.int .i64 0] : List Value)).flatten = [.int .i64 0] := rfl
                     have g257 : (⟨.lst, 1, [.sc (.int .i64 1)]⟩ : Root) = ⟨.lst, 1, encL c_i64 ([1] : List Int)⟩ := rfl
                     have g258 : ([1] : List Int).length = 1 := rfl
                     have g259 : (encL c_i64 ([1] : List Int)).length = 1 * 1 := by simp [encL_length c_i64_w]
                     have g260 : (encL c_i64 ([1] : List Int)).all nd = true := rfl
                     obtain ⟨b261, h⟩ := of_guard h
                     have g262 : appLim y249.length 1 8 := ⟨b261, by have := b261; omega⟩
                     have g263 : (encL c_i64 y249).length = y249.length * 1 := by simp [encL_length c_i64_w]
                     have g264 : encL c_i64 y249 ++ encL c_i64 ([1] : List Int) = encL c_i64 (y249 ++ ([1] : List Int)) := (encL_append _ _).symm
                     have g265 : (encL c_i64 (y249 ++ ([1] : List Int))).length = (y249.length + 1) * 1 := by simp [encL_length c_i64_w]
                     simp +decide only [reduceAdd, reduceMul, reduceToNat, ak, g256, g257, g258, g259, g260, g262, g263, g264, g265]
                     refine B206n _ ?_
                     obtain rfl := Option.some.inj h
                     refine G201n _ _ (wj [2, 4] [pI (.arg 0) .fz, pI (.tmp 2 0) .box, pI (.tmp 4 0) .box]) (hJ200 _ rfl)
                    ·replace c255 := of_decide_eq_false c255; rw [if_neg c255] at h
                     refine B206n _ ?_
                     obtain rfl := Option.some.inj h
                     refine G201n _ _ (wk [2, 4] [pI (.arg 0) .fz, pI (.tmp 2 0) .box, pI (.tmp 4 0) .box]) (hJ200 _ rfl)
                   ·replace c232 := of_decide_eq_false c232; rw [if_neg c232] at h
                    refine sr_k fun J266 hJ266 => ?_
                    simp +decide only [reduceAdd, reduceMul, reduceToNat, ak]
                    refine hJ266 _ ?_
                    refine cond_k (b := decide (t203.1 = 9)) rfl (fun c267 => ?_) (fun c267 => ?_)
                    ·replace c267 := of_decide_eq_true c267; rw [if_pos c267] at h
                     refine reg_k ?_
                     simp +decide only [reduceAdd, reduceMul, reduceToNat, ak]
                     refine B206n _ ?_
                     obtain rfl := Option.some.inj h
                     refine G201n _ _ (wk [2, 4] [pI (.arg 0) .fz, pI (.tmp 2 0) .box, pI (.tmp 4 0) .box]) (hJ200 _ rfl)
                    ·replace c267 := of_decide_eq_false c267; rw [if_neg c267] at h
                     refine B206n _ ?_
                     obtain rfl := Option.some.inj h
                     refine G201n _ _ (wk [2, 4] [pI (.arg 0) .fz, pI (.tmp 2 0) .box, pI (.tmp 4 0) .box]) (hJ200 _ rfl)
          ·replace h := hn; clear hn h199
           rintro _ rfl
           refine sr_k fun J268 hJ268 => ?_
           simp +decide only [reduceAdd, reduceMul, reduceToNat, ak]
           refine hJ268 _ ?_
           obtain rfl := Option.some.inj h
           refine hKr _ ⟨_, rfl, [⟨(.tmp 4 0), [2], none, .lst⟩, ⟨(.tmp 4 0), [3], none, .lst⟩, ⟨(.tmp 4 0), [4], none, .lst⟩], _, rfl, rfl, ?_⟩
           exact cl
/-! ### spec.l6PathsOK: function 78 -/
def C78_l0 : AC := .seq (.sr [.m 13 3, .m 14 0, .ln 15 14, .o (.bin 16 .lss (.t 13) (.t 15)), .keep [0, 3, 16]] (.cond (.t 16) (.skip) (.gh (.exit 0)))) (.seq (.block 1 (.sr [.m 19 0, .m 20 3, .ia 21 3 19 20, .o (.load 22 true 3 (.t 21)), .o (.alloc 4 [.int .i64 0, .int .i64 0, .int .i64 0]), .st 3 4 22, .keep [0, 3, 4]] (.seq (.ga (.reg [.fa 23 0 4, .ld 24 1 23, .o (.bin 25 .neq (.t 24) (.k 0)), .m 26 25, .op (some (26, true)) (.faddr 27 0 (.t 4)), .op (some (26, true)) (.load 28 false 1 (.t 27)), .op (some (26, true)) (.bin 29 .neq (.t 28) (.k 1)), .o (.pick 30 (.t 26) (.t 29) (.const (.bool false))), .m 31 30, .op (some (31, false)) (.faddr 32 1 (.t 4)), .op (some (31, false)) (.load 33 false 1 (.t 32)), .op (some (31, false)) (.bin 34 .lss (.t 33) (.k 0)), .o (.pick 35 (.t 31) (.const (.bool true)) (.t 34)), .m 36 35, .op (some (36, false)) (.faddr 37 1 (.t 4)), .op (some (36, false)) (.load 38 false 1 (.t 37)), .op (some (36, false)) (.bin 39 .gtr (.t 38) (.k 16)), .o (.pick 40 (.t 36) (.const (.bool true)) (.t 39)), .m 41 40, .op (some (41, false)) (.faddr 42 2 (.t 4)), .op (some (41, false)) (.load 43 false 1 (.t 42)), .op (some (41, false)) (.bin 44 .lss (.t 43) (.k 0)), .o (.pick 45 (.t 41) (.const (.bool true)) (.t 44)), .m 46 45, .op (some (46, false)) (.faddr 47 2 (.t 4)), .op (some (46, false)) (.load 48 false 1 (.t 47)), .op (some (46, false)) (.bin 49 .gtr (.t 48) (.k 16)), .o (.pick 50 (.t 46) (.const (.bool true)) (.t 49)), .keep [0, 3, 50]])) (.cond (.t 50) (.sr [.o (.mv 2 (.const (.bool false))), .keep [2]] (.gh .ret)) (.skip))))) (.reg [.m 17 3, .o (.bin 18 .add (.t 17) (.k 1)), .m 3 18, .keep [0, 3]]))
def C78 : AC := .sr [.o (.mv 2 (.const (.bool false))), .keep [0]] (.seq (.seq (.ga (.reg [.m 5 0, .ln 6 5, .o (.bin 7 .lss (.t 6) (.k 1)), .m 8 7, .op (some (8, false)) (.mv 9 (.t 0)), .op (some (8, false)) (.len 10 (.t 9)), .op (some (8, false)) (.bin 11 .gtr (.t 10) (.k 8)), .o (.pick 12 (.t 8) (.const (.bool true)) (.t 11)), .keep [0, 12]])) (.cond (.t 12) (.sr [.o (.mv 2 (.const (.bool false))), .keep [2]] (.ret)) (.skip))) (.seq (.sr [.o (.mv 3 (.k 0)), .keep [0, 3]] (.block 0 (.gh (.loop (.ga C78_l0))))) (.sr [.o (.mv 2 (.const (.bool true))), .keep [2]] (.ret))))
def r78 : List RV := [.tmp 2]
theorem k78 : compC Try.prog 51 C78 (Try.f78.body.getD .skip) = some C78.erase := by kernel_rfl
theorem q78 : rvsOf Try.prog Try.f78.results.toList = some r78 := by kernel_rfl
def spec_l6PathsOK.l0 (l0 : List S86) (x0_0 : Int) : Option (Lp Unit Bool) := (if x0_0 < (l0.length : Int) then (if 0 ≤ x0_0 ∧ x0_0 < (l0.length : Int) then ((if (rd z86 l0 x0_0).f0 ≠ 0 then (if (rd z86 l0 x0_0).f0 ≠ 1 then (some true) else (if (rd z86 l0 x0_0).f1 < 0 then (some true) else (if (rd z86 l0 x0_0).f1 > 16 then (some true) else (if (rd z86 l0 x0_0).f2 < 0 then (some true) else (some (decide ((rd z86 l0 x0_0).f2 > 16))))))) else (if (rd z86 l0 x0_0).f1 < 0 then (some true) else (if (rd z86 l0 x0_0).f1 > 16 then (some true) else (if (rd z86 l0 x0_0).f2 < 0 then (some true) else (some (decide ((rd z86 l0 x0_0).f2 > 16))))))) >>= fun (j23 : Bool) => (if j23 = true then (some (.b false)) else (spec_l6PathsOK.l0 l0 (IntKind.i64.wrap (x0_0 + 1))))) else none) else (some (.a ())))
 partial_fixpoint
def spec_l6PathsOK.f (l0 : List S86) : Option Bool := ((if (l0.length : Int) < 1 then (some true) else (some (decide ((l0.length : Int) > 8)))) >>= fun (j3 : Bool) => (if j3 = true then (some false) else (spec_l6PathsOK.l0 l0 0 >>= fun (y53 : Lp Unit Bool) => match y53 with | .a x55 => (some true) | .b x55 => (some x55))))
def spec_l6PathsOK.l0_M (cs0 : List Cell) (o0 : Nat) (l0 : List S86) (hv0 : Vw c86 3 cs0 o0 l0) (x0_0 : Int) (y : Lp Unit Bool) : Prop := ∀ (K : AE → St → Prop), (∀ x, y = .a x → K (.exit 0) ⟨[], [(.arg 0, ⟨.fz, 3, cs0⟩)], [], []⟩) → (∀ x, y = .b x → K .ret ⟨[(2, .c (.sc (.bool x)))], [(.arg 0, ⟨.fz, 3, cs0⟩)], [], []⟩) → loopS Try.prog 51 (.ga C78_l0) K ⟨[(0, .c (.ref (.arg 0) [] o0 l0.length)), (3, .c (.sc (.int .i64 x0_0)))], [(.arg 0, ⟨.fz, 3, cs0⟩)], [], []⟩
theorem spec_l6PathsOK.l0_walk (cs0 : List Cell) (o0 : Nat) (l0 : List S86) (hv0 : Vw c86 3 cs0 o0 l0) (x0_0 : Int) (y : Lp Unit Bool) (h : spec_l6PathsOK.l0 l0 x0_0 = some y) : spec_l6PathsOK.l0_M cs0 o0 l0 hv0 x0_0 y := by
 refine spec_l6PathsOK.l0.partial_correctness l0 (motive := fun x0_0 y => spec_l6PathsOK.l0_M cs0 o0 l0 hv0 x0_0 y) ?_ x0_0 y h
 clear h
 unfold spec_l6PathsOK.l0_M
 intro rec ih x0_0 y h K hx0 hx1
 refine loop_unroll (ga_k fun G0 G0n G0r G0x => ?_)
 unfold C78_l0
 refine seq_k fun J15 hJ15 => ?_
 refine sr_k fun J16 hJ16 => ?_
 simp +decide only [reduceAdd, reduceMul, reduceToNat, ak]
 refine hJ16 _ ?_
 refine cond_k (b := decide (x0_0 < (l0.length : Int))) rfl (fun c17 => ?_) (fun c17 => ?_)
 ·replace c17 := of_decide_eq_true c17; rw [if_pos c17] at h
  refine hJ15 _ ?_
  refine seq_k fun J18 hJ18 => ?_
  refine block_k fun B19 B19n B19x B19r B19j => ?_
  refine sr_k fun J20 hJ20 => ?_
  obtain ⟨b21, h⟩ := of_guard h
  have g22 : (List.drop (o0 + x0_0.toNat * 3) (cs0)).take 3 = [.sc (.int .i64 ((rd z86 l0 x0_0).f0)), .sc (.int .i64 ((rd z86 l0 x0_0).f1)), .sc (.int .i64 ((rd z86 l0 x0_0).f2))] := hv0.stretch z86 b21.1 b21.2
  simp +decide only [reduceAdd, reduceMul, reduceToNat, ak, b21, g22]
  refine hJ20 _ ?_
  obtain ⟨j23, h24, hn⟩ := of_bind h
  refine seq_j (fun st => st = ⟨[(0, .c (.ref (.arg 0) [] o0 l0.length)), (3, .c (.sc (.int .i64 x0_0))), (50, .c (.sc (.bool j23)))], [(.arg 0, ⟨.fz, 3, cs0⟩)], [], []⟩) (fun J25 hJ25 => ?_) ?_
  ·replace h := h24; clear hn
   refine ga_k fun G26 G26n G26r G26x => ?_
   refine reg_k ?_
   simp +decide only [reduceAdd, reduceMul, reduceToNat, ak]
   by_cases c27 : (rd z86 l0 x0_0).f0 ≠ 0
   ·rw [if_pos c27] at h
    have e28 : decide ((rd z86 l0 x0_0).f0 ≠ 0) = true := decide_eq_true c27
    simp +decide only [reduceAdd, reduceMul, reduceToNat, ak, e28]
    by_cases c29 : (rd z86 l0 x0_0).f0 ≠ 1
    ·rw [if_pos c29] at h
     have e30 : decide ((rd z86 l0 x0_0).f0 ≠ 1) = true := decide_eq_true c29
     simp +decide only [reduceAdd, reduceMul, reduceToNat, ak, e30]
     obtain rfl := Option.some.inj h
     refine G26n _ _ (wj [0, 3, 50] [pI (.arg 0) .fz]) (hJ25 _ rfl)
    ·rw [if_neg c29] at h
     have e31 : decide ((rd z86 l0 x0_0).f0 ≠ 1) = false := decide_eq_false c29
     simp +decide only [reduceAdd, reduceMul, reduceToNat, ak, e31]
     by_cases c32 : (rd z86 l0 x0_0).f1 < 0
     ·rw [if_pos c32] at h
      have e33 : decide ((rd z86 l0 x0_0).f1 < 0) = true := decide_eq_true c32
      simp +decide only [reduceAdd, reduceMul, reduceToNat, ak, e33]
      obtain rfl := Option.some.inj h
      refine G26n _ _ (wj [0, 3, 50] [pI (.arg 0) .fz]) (hJ25 _ rfl)
     ·rw [if_neg c32] at h
      have e34 : decide ((rd z86 l0 x0_0).f1 < 0) = false := decide_eq_false c32
      simp +decide only [reduceAdd, reduceMul, reduceToNat, ak, e34]
      by_cases c35 : (rd z86 l0 x0_0).f1 > 16
      ·rw [if_pos c35] at h
       have e36 : decide ((rd z86 l0 x0_0).f1 > 16) = true := decide_eq_true c35
       simp +decide only [reduceAdd, reduceMul, reduceToNat, ak, e36]
       obtain rfl := Option.some.inj h
       refine G26n _ _ (wj [0, 3, 50] [pI (.arg 0) .fz]) (hJ25 _ rfl)
      ·rw [if_neg c35] at h
       have e37 : decide ((rd z86 l0 x0_0).f1 > 16) = false := decide_eq_false c35
       simp +decide only [reduceAdd, reduceMul, reduceToNat, ak, e37]
       by_cases c38 : (rd z86 l0 x0_0).f2 < 0
       ·rw [if_pos c38] at h
        have e39 : decide ((rd z86 l0 x0_0).f2 < 0) = true := decide_eq_true c38
        simp +decide only [reduceAdd, reduceMul, reduceToNat, ak, e39]
        obtain rfl := Option.some.inj h
        refine G26n _ _ (wj [0, 3, 50] [pI (.arg 0) .fz]) (hJ25 _ rfl)
       ·rw [if_neg c38] at h
        have e40 : decide ((rd z86 l0 x0_0).f2 < 0) = false := decide_eq_false c38
        simp +decide only [reduceAdd, reduceMul, reduceToNat, ak, e40]
        obtain rfl := Option.some.inj h
        refine G26n _ _ (wj [0, 3, 50] [pI (.arg 0) .fz]) (hJ25 _ rfl)
   ·rw [if_neg c27] at h
    have e41 : decide ((rd z86 l0 x0_0).f0 ≠ 0) = false := decide_eq_false c27
    simp +decide only [reduceAdd, reduceMul, reduceToNat, ak, e41]
    by_cases c42 : (rd z86 l0 x0_0).f1 < 0
    ·rw [if_pos c42] at h
     have e43 : decide ((rd z86 l0 x0_0).f1 < 0) = true := decide_eq_true c42
     simp +decide only [reduceAdd, reduceMul, reduceToNat, ak, e43]
     obtain rfl := Option.some.inj h
     refine G26n _ _ (wj [0, 3, 50] [pI (.arg 0) .fz]) (hJ25 _ rfl)
    ·rw [if_neg c42] at h
     have e44 : decide ((rd z86 l0 x0_0).f1 < 0) = false := decide_eq_false c42
     simp +decide only [reduceAdd, reduceMul, reduceToNat, ak, e44]
     by_cases c45 : (rd z86 l0 x0_0).f1 > 16
     ·rw [if_pos c45] at h
      have e46 : decide ((rd z86 l0 x0_0).f1 > 16) = true := decide_eq_true c45
      simp +decide only [reduceAdd, reduceMul, reduceToNat, ak, e46]
      obtain rfl := Option.some.inj h
      refine G26n _ _ (wj [0, 3, 50] [pI (.arg 0) .fz]) (hJ25 _ rfl)
     ·rw [if_neg c45] at h
      have e47 : decide ((rd z86 l0 x0_0).f1 > 16) = false := decide_eq_false c45
      simp +decide only [reduceAdd, reduceMul, reduceToNat, ak, e47]
      by_cases c48 : (rd z86 l0 x0_0).f2 < 0
      ·rw [if_pos c48] at h
       have e49 : decide ((rd z86 l0 x0_0).f2 < 0) = true := decide_eq_true c48
       simp +decide only [reduceAdd, reduceMul, reduceToNat, ak, e49]
       obtain rfl := Option.some.inj h
       refine G26n _ _ (wj [0, 3, 50] [pI (.arg 0) .fz]) (hJ25 _ rfl)
      ·rw [if_neg c48] at h
       have e50 : decide ((rd z86 l0 x0_0).f2 < 0) = false := decide_eq_false c48
       simp +decide only [reduceAdd, reduceMul, reduceToNat, ak, e50]
       obtain rfl := Option.some.inj h
       refine G26n _ _ (wj [0, 3, 50] [pI (.arg 0) .fz]) (hJ25 _ rfl)
  ·replace h := hn; clear hn h24
   rintro _ rfl
   refine cond_k (b := j23) rfl (fun c51 => ?_) (fun c51 => ?_)
   ·rw [if_pos c51] at h
    refine sr_k fun J52 hJ52 => ?_
    simp +decide only [reduceAdd, reduceMul, reduceToNat, ak]
    refine hJ52 _ ?_
    obtain rfl := Option.some.inj h
    refine gh_k (wk [2] [pI (.arg 0) .fz]) ?_
    refine B19r _ ?_
    refine G0r _ ?_
    exact hx1 _ rfl
   ·rw [if_neg (Bool.eq_false_iff.1 c51)] at h
    refine B19n _ ?_
    refine hJ18 _ ?_
    refine reg_k ?_
    simp +decide only [reduceAdd, reduceMul, reduceToNat, ak]
    refine G0n _ _ (wk [0, 3] [pI (.arg 0) .fz]) (ih _ _ h K hx0 hx1)
 ·replace c17 := of_decide_eq_false c17; rw [if_neg c17] at h
  obtain rfl := Option.some.inj h
  refine gh_k (wk [] [pI (.arg 0) .fz]) ?_
  refine G0x _ _ ?_
  exact hx0 _ rfl
theorem spec_l6PathsOK.tri (cs0 : List Cell) (o0 : Nat) (l0 : List S86) (hv0 : Vw c86 3 cs0 o0 l0) (r : Bool) (h : spec_l6PathsOK.f l0 = some r) : Tri Try.prog 78 [.c (.ref (.arg 0) [] o0 l0.length)] [(.arg 0, ⟨.fz, 3, cs0⟩)] (fun o => o = ⟨.c (.sc (.bool r)), [(.arg 0, ⟨.fz, 3, cs0⟩)], [], []⟩) := by
 refine tri_of_body (ac := C78) (xs := r78) Try.func78 (show Try.f78.body = some (Try.f78.body.getD .skip) from rfl) k78 q78 (Nat.le_of_ble_eq_true rfl) ?_
 refine body_of fun K hKn hKr => ?_
 unfold spec_l6PathsOK.f at h
 unfold C78
 simp only [initT, Nat.reduceAdd]
 refine sr_k fun J1 hJ1 => ?_
 simp +decide only [reduceAdd, reduceMul, reduceToNat, ak]
 refine hJ1 _ ?_
 refine seq_k fun J2 hJ2 => ?_
 obtain ⟨j3, h4, hn⟩ := of_bind h
 refine seq_j (fun st => st = ⟨[(0, .c (.ref (.arg 0) [] o0 l0.length)), (12, .c (.sc (.bool j3)))], [(.arg 0, ⟨.fz, 3, cs0⟩)], [], []⟩) (fun J5 hJ5 => ?_) ?_
 ·replace h := h4; clear hn
  refine ga_k fun G6 G6n G6r G6x => ?_
  refine reg_k ?_
  simp +decide only [reduceAdd, reduceMul, reduceToNat, ak]
  by_cases c7 : (l0.length : Int) < 1
  ·rw [if_pos c7] at h
   have e8 : decide ((l0.length : Int) < 1) = true := decide_eq_true c7
   simp +decide only [reduceAdd, reduceMul, reduceToNat, ak, e8]
   obtain rfl := Option.some.inj h
   refine G6n _ _ (wj [0, 12] [pI (.arg 0) .fz]) (hJ5 _ rfl)
  ·rw [if_neg c7] at h
   have e9 : decide ((l0.length : Int) < 1) = false := decide_eq_false c7
   simp +decide only [reduceAdd, reduceMul, reduceToNat, ak, e9]
   obtain rfl := Option.some.inj h
   refine G6n _ _ (wj [0, 12] [pI (.arg 0) .fz]) (hJ5 _ rfl)
 ·replace h := hn; clear hn h4
  rintro _ rfl
  refine cond_k (b := j3) rfl (fun c10 => ?_) (fun c10 => ?_)
  ·rw [if_pos c10] at h
   refine sr_k fun J11 hJ11 => ?_
   simp +decide only [reduceAdd, reduceMul, reduceToNat, ak]
   refine hJ11 _ ?_
   obtain rfl := Option.some.inj h
   refine hKr _ ⟨_, rfl, [], _, rfl, rfl, ?_⟩
   exact cl
  ·rw [if_neg (Bool.eq_false_iff.1 c10)] at h
   refine hJ2 _ ?_
   refine seq_k fun J12 hJ12 => ?_
   refine sr_k fun J13 hJ13 => ?_
   simp +decide only [reduceAdd, reduceMul, reduceToNat, ak]
   refine hJ13 _ ?_
   refine block_k fun B14 B14n B14x B14r B14j => ?_
   obtain ⟨y53, h54, h⟩ := of_bind h
   refine gh_k (wk [0, 3] [pI (.arg 0) .fz]) ?_
   rw [e_loop]
   refine spec_l6PathsOK.l0_walk cs0 o0 l0 hv0 0 _ h54 _ ?_ ?_
   ·rintro x55 rfl
    dsimp only at h
    refine B14x _ ?_
    refine hJ12 _ ?_
    refine sr_k fun J56 hJ56 => ?_
    simp +decide only [reduceAdd, reduceMul, reduceToNat, ak]
    refine hJ56 _ ?_
    obtain rfl := Option.some.inj h
    refine hKr _ ⟨_, rfl, [], _, rfl, rfl, ?_⟩
    exact cl
   ·rintro x55 rfl
    dsimp only at h
    refine B14r _ ?_
    obtain rfl := Option.some.inj h
    refine hKr _ ⟨_, rfl, [], _, rfl, rfl, ?_⟩
    exact cl
/-! ### spec.l6Mark: function 117 -/
def C117 : AC := .sr [.o (.mv 2 (.const (.bool false))), .keep [0]] (.sr [.m 3 0, .o (.bin 4 .eql (.t 3) (.k 0)), .m 5 4, .op (some (5, false)) (.mv 6 (.t 0)), .op (some (5, false)) (.bin 7 .eql (.t 6) (.k 1)), .o (.pick 8 (.t 5) (.const (.bool true)) (.t 7)), .m 2 8, .keep [2]] (.ret))
def r117 : List RV := [.tmp 2]
theorem k117 : compC Try.prog 9 C117 (Try.f117.body.getD .skip) = some C117.erase := by kernel_rfl
theorem q117 : rvsOf Try.prog Try.f117.results.toList = some r117 := by kernel_rfl
def spec_l6Mark.f (a0 : Int) : Option Bool := (if a0 = 0 then (some true) else (some (decide (a0 = 1))))
theorem spec_l6Mark.tri (a0 : Int) (r : Bool) (h : spec_l6Mark.f a0 = some r) : Tri Try.prog 117 [.c (.sc (.int .i64 a0))] [] (fun o => o = ⟨.c (.sc (.bool r)), [], [], []⟩) := by
 refine tri_of_body (ac := C117) (xs := r117) Try.func117 (show Try.f117.body = some (Try.f117.body.getD .skip) from rfl) k117 q117 (Nat.le_of_ble_eq_true rfl) ?_
 refine body_of fun K hKn hKr => ?_
 unfold spec_l6Mark.f at h
 unfold C117
 simp only [initT, Nat.reduceAdd]
 refine sr_k fun J1 hJ1 => ?_
 simp +decide only [reduceAdd, reduceMul, reduceToNat, ak]
 refine hJ1 _ ?_
 refine sr_k fun J2 hJ2 => ?_
 simp +decide only [reduceAdd, reduceMul, reduceToNat, ak]
 by_cases c3 : a0 = 0
 ·rw [if_pos c3] at h
  have e4 : decide (a0 = 0) = true := decide_eq_true c3
  simp +decide only [reduceAdd, reduceMul, reduceToNat, ak, e4]
  refine hJ2 _ ?_
  obtain rfl := Option.some.inj h
  refine hKr _ ⟨_, rfl, [], _, rfl, rfl, ?_⟩
  exact cl
 ·rw [if_neg c3] at h
  have e5 : decide (a0 = 0) = false := decide_eq_false c3
  simp +decide only [reduceAdd, reduceMul, reduceToNat, ak, e5]
  refine hJ2 _ ?_
  obtain rfl := Option.some.inj h
  refine hKr _ ⟨_, rfl, [], _, rfl, rfl, ?_⟩
  exact cl
end Go.AK
