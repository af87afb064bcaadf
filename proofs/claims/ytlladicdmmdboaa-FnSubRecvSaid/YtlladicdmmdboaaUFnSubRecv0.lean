-- by a program of this session (wip/ak/pw.py)
import Derived.Test.YtlladicdmmdboaaAk2
import Derived.KernelRfl
import Derived.Test.YtlladicdmmdboaaChecked
set_option synthInstance.maxSize 20000
set_option synthInstance.maxHeartbeats 400000
set_option maxRecDepth 100000
set_option maxHeartbeats 4000000
set_option linter.unusedVariables false
set_option linter.unusedSimpArgs false
namespace Go.AK
open Go Go.Proofs
def c_u8 (x : Int) : List Cell := [.sc (.int .u8 x)]
theorem c_u8_w (x : Int) : (c_u8 x).length = 1 := rfl
structure S63 where
 f0 : Int
 f1 : Int
 f2 : Int
def z63 : S63 := ⟨0, 0, 0⟩
theorem S63.eta (x : S63) : (⟨x.f0, x.f1, x.f2⟩ : S63) = x := rfl
def c63 (x : S63) : List Cell := [.sc (.int .i64 x.f0), .sc (.int .i64 x.f1), .sc (.int .u32 x.f2)]
theorem c63_w (x : S63) : (c63 x).length = 3 := rfl
def c_i64 (x : Int) : List Cell := [.sc (.int .i64 x)]
theorem c_i64_w (x : Int) : (c_i64 x).length = 1 := rfl
structure S68 where
 f0 : Int
 f1 : Int
 f2 : Int
def z68 : S68 := ⟨0, 0, 0⟩
theorem S68.eta (x : S68) : (⟨x.f0, x.f1, x.f2⟩ : S68) = x := rfl
def c68 (x : S68) : List Cell := [.sc (.int .i64 x.f0), .sc (.int .u32 x.f1), .sc (.int .i64 x.f2)]
theorem c68_w (x : S68) : (c68 x).length = 3 := rfl
structure S66 where
 f0 : Int
 f1 : (List S68)
 f2 : (List Int)
 f3 : Int
 f4 : Int
def z66 : S66 := ⟨0, ([] : (List S68)), ([] : (List Int)), 0, 0⟩
theorem S66.eta (x : S66) : (⟨x.f0, x.f1, x.f2, x.f3, x.f4⟩ : S66) = x := rfl
def c66 (x : S66) : List Cell := [.sc (.int .i64 x.f0), .own 3 x.f1.length (encL c68 x.f1), .own 1 x.f2.length (encL c_i64 x.f2), .sc (.int .i64 x.f3), .sc (.int .i64 x.f4)]
theorem c66_w (x : S66) : (c66 x).length = 5 := rfl
def c_u32 (x : Int) : List Cell := [.sc (.int .u32 x)]
theorem c_u32_w (x : Int) : (c_u32 x).length = 1 := rfl
structure S74 where
 f0 : Int
 f1 : Int
def z74 : S74 := ⟨0, 0⟩
theorem S74.eta (x : S74) : (⟨x.f0, x.f1⟩ : S74) = x := rfl
def c74 (x : S74) : List Cell := [.sc (.int .i64 x.f0), .sc (.int .u32 x.f1)]
theorem c74_w (x : S74) : (c74 x).length = 2 := rfl
/-! ### spec.l1Begin: function 68 -/
def C68_l0 : AC := .seq (.sr [.m 8 4, .m 9 0, .ln 10 9, .o (.bin 11 .lss (.t 8) (.t 10)), .keep [0, 2, 3, 4, 11]] (.cond (.t 11) (.skip) (.gh (.exit 0)))) (.seq (.block 1 (.regD (.f (.fa 14 2 3) (.f (.ld 15 1 14) (.f (.m 16 0) (.f (.m 17 4) (.f (.ia 18 1 16 17) (.f (.ld 19 1 18) (.f (.o (.conv 20 .u64 (.t 19))) (.f (.o (.bin 21 .xor (.t 15) (.t 20))) (.f (.o (.bin 22 .mul (.t 21) (.const (.int .u64 1099511628211)))) (.f (.fa 23 2 3) (.alt (.st 1 23 22) none (.done) (.stop)))))))))))) [0, 2, 3, 4])) (.reg [.m 12 4, .o (.bin 13 .add (.t 12) (.k 1)), .m 4 13, .keep [0, 2, 3, 4]]))
def C68 : AC := .sr [.o (.alloc 2 [.slice none 0 0, .int .i64 0, .int .u64 0]), .gh, .keep [0, 2]] (.sr [.m 5 0, .o (.build 6 [.slice none 0 0, .int .i64 0, .int .u64 0] [(0, 1, .tmp 5)]), .gh, .o (.alloc 3 [.slice none 0 0, .int .i64 0, .int .u64 0]), .gh, .st 3 3 6, .keep [0, 2, 3]] (.sr [.fa 7 2 3, .o (.store 1 (.t 7) (.const (.int .u64 1469598103934665603))), .keep [0, 2, 3]] (.seq (.sr [.o (.mv 4 (.k 0)), .keep [0, 2, 3, 4]] (.block 0 (.gh (.loop (.ga C68_l0))))) (.sr [.o (.load 24 true 3 (.t 3)), .st 3 2 24, .keep [2]] (.ret)))))
def r68 : List RV := [.cell 2 true 3]
theorem k68 : compC Try.prog 25 C68 (Try.f68.body.getD .skip) = some C68.erase := by kernel_rfl
theorem q68 : rvsOf Try.prog Try.f68.results.toList = some r68 := by kernel_rfl
def spec_l1Begin.l0 (l0 : List Int) (x0_1 : (List Int)) (x0_2 : Int) (x0_3 : Int) (x0_4 : Int) (x0_0 : Int) (x0_5 : Int) : Option Int := (if x0_0 < (l0.length : Int) then (if 0 ≤ x0_0 ∧ x0_0 < (l0.length : Int) then (spec_l1Begin.l0 l0 x0_1 x0_2 x0_3 x0_4 (IntKind.i64.wrap (x0_0 + 1)) (IntKind.u64.wrap ((bits .xor .u64 x0_5 (IntKind.u64.wrap (rd 0 l0 x0_0))) * 1099511628211))) else none) else (some x0_5))
 partial_fixpoint
def spec_l1Begin.f (l0 : List Int) : Option (Int × Int) := (spec_l1Begin.l0 l0 ([] : List Int) 0 0 0 0 1469598103934665603 >>= fun (y14 : Int) => (some (0, y14)))
def spec_l1Begin.l0_M (cs0 : List Cell) (o0 : Nat) (l0 : List Int) (hv0 : Vw c_u8 1 cs0 o0 l0) (x0_1 : (List Int)) (x0_2 : Int) (x0_3 : Int) (x0_4 : Int) (x0_0 : Int) (x0_5 : Int) (y : Int) : Prop := ∀ (K : AE → St → Prop), (K (.exit 0) ⟨[(2, .c (.ptr (.tmp 2 0) [] 0)), (3, .c (.ptr (.tmp 3 0) [] 0))], [(.arg 0, ⟨.fz, 1, cs0⟩), (.tmp 2 0, ⟨.box, 0, [.own 1 x0_1.length (encL c_u8 x0_1), .sc (.int .i64 x0_2), .sc (.int .u64 x0_3)]⟩), (.tmp 3 0, ⟨.box, 0, [.ref (.arg 0) [] o0 l0.length, .sc (.int .i64 x0_4), .sc (.int .u64 y)]⟩)], [], []⟩) → loopS Try.prog 25 (.ga C68_l0) K ⟨[(0, .c (.ref (.arg 0) [] o0 l0.length)), (2, .c (.ptr (.tmp 2 0) [] 0)), (3, .c (.ptr (.tmp 3 0) [] 0)), (4, .c (.sc (.int .i64 x0_0)))], [(.arg 0, ⟨.fz, 1, cs0⟩), (.tmp 2 0, ⟨.box, 0, [.own 1 x0_1.length (encL c_u8 x0_1), .sc (.int .i64 x0_2), .sc (.int .u64 x0_3)]⟩), (.tmp 3 0, ⟨.box, 0, [.ref (.arg 0) [] o0 l0.length, .sc (.int .i64 x0_4), .sc (.int .u64 x0_5)]⟩)], [], []⟩
theorem spec_l1Begin.l0_walk (cs0 : List Cell) (o0 : Nat) (l0 : List Int) (hv0 : Vw c_u8 1 cs0 o0 l0) (x0_1 : (List Int)) (x0_2 : Int) (x0_3 : Int) (x0_4 : Int) (x0_0 : Int) (x0_5 : Int) (y : Int) (h : spec_l1Begin.l0 l0 x0_1 x0_2 x0_3 x0_4 x0_0 x0_5 = some y) : spec_l1Begin.l0_M cs0 o0 l0 hv0 x0_1 x0_2 x0_3 x0_4 x0_0 x0_5 y := by
 refine spec_l1Begin.l0.partial_correctness l0 x0_1 x0_2 x0_3 x0_4 (motive := fun x0_0 x0_5 y => spec_l1Begin.l0_M cs0 o0 l0 hv0 x0_1 x0_2 x0_3 x0_4 x0_0 x0_5 y) ?_ x0_0 x0_5 y h
 clear h
 unfold spec_l1Begin.l0_M
 intro rec ih x0_0 x0_5 y h K hx0
 refine loop_unroll (ga_k fun G0 G0n G0r G0x => ?_)
 unfold C68_l0
 refine seq_k fun J7 hJ7 => ?_
 refine sr_k fun J8 hJ8 => ?_
 simp +decide only [Nat.reduceAdd, Nat.reduceMul, Int.reduceToNat, ak]
 refine hJ8 _ ?_
 refine cond_k (b := decide (x0_0 < (l0.length : Int))) rfl (fun c9 => ?_) (fun c9 => ?_)
 ·replace c9 := of_decide_eq_true c9; rw [if_pos c9] at h
  refine hJ7 _ ?_
  refine seq_k fun J10 hJ10 => ?_
  refine block_k fun B11 B11n B11x B11r B11j => ?_
  refine regD_k ?_
  obtain ⟨b12, h⟩ := of_guard h
  have g13 : (cs0)[o0 + x0_0.toNat * 1]? = some (.sc (.int .u8 (rd 0 l0 x0_0))) := hv0.get 0 0 b12.1 b12.2 (by decide)
  simp +decide only [Nat.reduceAdd, Nat.reduceMul, Int.reduceToNat, ak, b12, g13]
  refine alt_e ?_
  ·simp +decide only [Nat.reduceAdd, Nat.reduceMul, Int.reduceToNat, ak]
   refine B11n _ ?_
   refine hJ10 _ ?_
   refine reg_k ?_
   simp +decide only [Nat.reduceAdd, Nat.reduceMul, Int.reduceToNat, ak]
   refine G0n _ _ (wk [0, 2, 3, 4] [pI (.arg 0) .fz, pI (.tmp 2 0) .box, pI (.tmp 3 0) .box]) (ih _ _ _ h K hx0)
 ·replace c9 := of_decide_eq_false c9; rw [if_neg c9] at h
  obtain rfl := Option.some.inj h
  refine gh_k (wk [2, 3] [pI (.arg 0) .fz, pI (.tmp 2 0) .box, pI (.tmp 3 0) .box]) ?_
  refine G0x _ _ ?_
  exact hx0
theorem spec_l1Begin.tri (cs0 : List Cell) (o0 : Nat) (l0 : List Int) (hv0 : Vw c_u8 1 cs0 o0 l0) (r : Int × Int) (h : spec_l1Begin.f l0 = some r) : Tri Try.prog 68 [.c (.ref (.arg 0) [] o0 l0.length)] [(.arg 0, ⟨.fz, 1, cs0⟩)] (fun o => o = ⟨.g [.ref (.arg 0) [] o0 l0.length, .sc (.int .i64 r.1), .sc (.int .u64 r.2)], [(.arg 0, ⟨.fz, 1, cs0⟩)], [], []⟩) := by
 refine tri_of_body (ac := C68) (xs := r68) Try.func68 (show Try.f68.body = some (Try.f68.body.getD .skip) from rfl) k68 q68 (Nat.le_of_ble_eq_true rfl) ?_
 refine body_of fun K hKn hKr => ?_
 unfold spec_l1Begin.f at h
 unfold C68
 simp only [initT, Nat.reduceAdd]
 refine sr_k fun J1 hJ1 => ?_
 simp +decide only [Nat.reduceAdd, Nat.reduceMul, Int.reduceToNat, ak]
 refine gho_k (Weak.own (.tmp 2 0) (cs' := [.own 1 (([] : List Int).length) (encL c_u8 ([] : List Int)), .sc (.int .i64 0), .sc (.int .u64 0)]) rfl ⟨.inr ⟨rfl, _, rfl⟩, .inl rfl, .inl rfl, trivial⟩) ?_
 simp +decide only [Nat.reduceAdd, Nat.reduceMul, Int.reduceToNat, ak]
 refine hJ1 _ ?_
 refine sr_k fun J2 hJ2 => ?_
 simp +decide only [Nat.reduceAdd, Nat.reduceMul, Int.reduceToNat, ak]
 refine gho_k (Weak.refl _ _) ?_
 simp +decide only [Nat.reduceAdd, Nat.reduceMul, Int.reduceToNat, ak]
 refine gho_k (Weak.own (.tmp 3 0) (cs' := [.own 1 (([] : List Int).length) (encL c_u8 ([] : List Int)), .sc (.int .i64 0), .sc (.int .u64 0)]) rfl ⟨.inr ⟨rfl, _, rfl⟩, .inl rfl, .inl rfl, trivial⟩) ?_
 simp +decide only [Nat.reduceAdd, Nat.reduceMul, Int.reduceToNat, ak]
 refine hJ2 _ ?_
 refine sr_k fun J3 hJ3 => ?_
 simp +decide only [Nat.reduceAdd, Nat.reduceMul, Int.reduceToNat, ak]
 refine hJ3 _ ?_
 refine seq_k fun J4 hJ4 => ?_
 refine sr_k fun J5 hJ5 => ?_
 simp +decide only [Nat.reduceAdd, Nat.reduceMul, Int.reduceToNat, ak]
 refine hJ5 _ ?_
 refine block_k fun B6 B6n B6x B6r B6j => ?_
 obtain ⟨y14, h15, h⟩ := of_bind h
 refine gh_k (wk [0, 2, 3, 4] [pI (.arg 0) .fz, pI (.tmp 2 0) .box, pI (.tmp 3 0) .box]) ?_
 rw [e_loop]
 refine spec_l1Begin.l0_walk cs0 o0 l0 hv0 ([] : List Int) 0 0 0 0 1469598103934665603 _ h15 _ ?_
 refine B6x _ ?_
 refine hJ4 _ ?_
 refine sr_k fun J16 hJ16 => ?_
 simp +decide only [Nat.reduceAdd, Nat.reduceMul, Int.reduceToNat, ak]
 refine hJ16 _ ?_
 obtain rfl := Option.some.inj h
 refine hKr _ ⟨_, rfl, [], _, rfl, rfl, ?_⟩
 exact cl
/-! ### spec.l1Next: function 69 -/
def C69 : AC := .sr [.o (.mv 4 (.k 0)), .keep [0, 1]] (.seq (.sr [.m 6 1, .o (.bin 7 .leq (.t 6) (.k 0)), .keep [0, 1, 7]] (.cond (.t 7) (.sr [.o (.mv 4 (.k 0)), .keep [4]] (.ret)) (.skip))) (.sr [.m 8 0, .m 9 0, .o (.nilc 10 (.t 9)), .fa 11 2 10, .ld 12 1 11, .o (.bin 13 .mul (.t 12) (.const (.int .u64 6364136223846793005))), .o (.bin 14 .add (.t 13) (.const (.int .u64 1442695040888963407))), .o (.nilc 15 (.t 8)), .fa 16 2 15, .st 1 16 14, .keep [0, 1]] (.sr [.m 17 0, .o (.nilc 18 (.t 17)), .fa 19 2 18, .ld 20 1 19, .o (.bin 21 .shr (.t 20) (.const (.int .u64 33))), .m 5 21, .keep [0, 1, 5]] (.seq (.ga (.seq (.regD (.f (.m 22 0) (.f (.o (.nilc 23 (.t 22))) (.f (.fa 24 1 23) (.f (.ld 25 1 24) (.f (.m 26 0) (.f (.o (.nilc 27 (.t 26))) (.f (.fa 28 0 27) (.f (.ld 29 1 28) (.f (.ln 30 29) (.f (.o (.bin 31 .lss (.t 25) (.t 30))) (.done))))))))))) [0, 1, 5, 31]) (.cond (.t 31) (.seq (.regD (.f (.m 32 5) (.f (.m 33 0) (.f (.o (.nilc 34 (.t 33))) (.f (.fa 35 0 34) (.f (.ld 36 1 35) (.f (.m 37 0) (.f (.o (.nilc 38 (.t 37))) (.f (.fa 39 1 38) (.f (.ld 40 1 39) (.f (.ia 41 1 36 40) (.f (.ld 42 1 41) (.f (.o (.conv 43 .u64 (.t 42))) (.f (.o (.bin 44 .xor (.t 32) (.t 43))) (.f (.m 5 44) (.done))))))))))))))) [0, 1, 5]) (.reg [.m 45 0, .m 46 0, .o (.nilc 47 (.t 46)), .fa 48 1 47, .ld 49 1 48, .o (.bin 50 .add (.t 49) (.k 1)), .o (.nilc 51 (.t 45)), .fa 52 1 51, .st 1 52 50, .keep [1, 5]])) (.skip)))) (.sr [.m 53 5, .m 54 1, .o (.conv 55 .u64 (.t 54)), .o (.bin 56 .rem (.t 53) (.t 55)), .o (.conv 57 .i64 (.t 56)), .m 4 57, .keep [4]] (.ret))))))
def r69 : List RV := [.tmp 4]
theorem k69 : compC Try.prog 58 C69 (Try.f69.body.getD .skip) = some C69.erase := by kernel_rfl
theorem q69 : rvsOf Try.prog Try.f69.results.toList = some r69 := by kernel_rfl
def spec_l1Next.f (l0_0 : List Int) (a0_1 : Int) (a0_2 : Int) (a1 : Int) : Option (Int × Int × Int) := (if a1 ≤ 0 then (some (0, a0_1, a0_2)) else ((if a0_1 < (l0_0.length : Int) then (if 0 ≤ a0_1 ∧ a0_1 < (l0_0.length : Int) then (some (bits .xor .u64 ((IntKind.u64.wrap ((IntKind.u64.wrap (a0_2 * 6364136223846793005)) + 1442695040888963407)).fdiv (2 ^ 33)) (IntKind.u64.wrap (rd 0 l0_0 a0_1)), IntKind.i64.wrap (a0_1 + 1))) else none) else (some ((IntKind.u64.wrap ((IntKind.u64.wrap (a0_2 * 6364136223846793005)) + 1442695040888963407)).fdiv (2 ^ 33), a0_1))) >>= fun (j9 : Int × Int) => (if ¬ IntKind.u64.wrap a1 = 0 then (some (IntKind.i64.wrap (j9.1.tmod (IntKind.u64.wrap a1)), j9.2, IntKind.u64.wrap ((IntKind.u64.wrap (a0_2 * 6364136223846793005)) + 1442695040888963407))) else none)))
theorem spec_l1Next.tri (cs1 : List Cell) (o1 : Nat) (l0_0 : List Int) (hv1 : Vw c_u8 1 cs1 o1 l0_0) (a0_1 : Int) (a0_2 : Int) (a1 : Int) (r : Int × Int × Int) (h : spec_l1Next.f l0_0 a0_1 a0_2 a1 = some r) : Tri Try.prog 69 [.c (.ptr (.arg 0) [] 0), .c (.sc (.int .i64 a1))] [(.arg 0, ⟨.box, 0, [.ref (.arg 1) [] o1 l0_0.length, .sc (.int .i64 a0_1), .sc (.int .u64 a0_2)]⟩), (.arg 1, ⟨.fz, 1, cs1⟩)] (fun o => o = ⟨.c (.sc (.int .i64 r.1)), [(.arg 0, ⟨.box, 0, [.ref (.arg 1) [] o1 l0_0.length, .sc (.int .i64 r.2.1), .sc (.int .u64 r.2.2)]⟩), (.arg 1, ⟨.fz, 1, cs1⟩)], [], []⟩) := by
 refine tri_of_body (ac := C69) (xs := r69) Try.func69 (show Try.f69.body = some (Try.f69.body.getD .skip) from rfl) k69 q69 (Nat.le_of_ble_eq_true rfl) ?_
 refine body_of fun K hKn hKr => ?_
 unfold spec_l1Next.f at h
 unfold C69
 simp only [initT, Nat.reduceAdd]
 refine sr_k fun J1 hJ1 => ?_
 simp +decide only [Nat.reduceAdd, Nat.reduceMul, Int.reduceToNat, ak]
 refine hJ1 _ ?_
 refine seq_k fun J2 hJ2 => ?_
 refine sr_k fun J3 hJ3 => ?_
 simp +decide only [Nat.reduceAdd, Nat.reduceMul, Int.reduceToNat, ak]
 refine hJ3 _ ?_
 refine cond_k (b := decide (a1 ≤ 0)) rfl (fun c4 => ?_) (fun c4 => ?_)
 ·replace c4 := of_decide_eq_true c4; rw [if_pos c4] at h
  refine sr_k fun J5 hJ5 => ?_
  simp +decide only [Nat.reduceAdd, Nat.reduceMul, Int.reduceToNat, ak]
  refine hJ5 _ ?_
  obtain rfl := Option.some.inj h
  refine hKr _ ⟨_, rfl, [], _, rfl, rfl, ?_⟩
  exact cl
 ·replace c4 := of_decide_eq_false c4; rw [if_neg c4] at h
  refine hJ2 _ ?_
  refine sr_k fun J6 hJ6 => ?_
  simp +decide only [Nat.reduceAdd, Nat.reduceMul, Int.reduceToNat, ak]
  refine hJ6 _ ?_
  refine sr_k fun J7 hJ7 => ?_
  have g8 : ∀ a, abin .shr (.int .u64 a) (.int .u64 33) = some (.int .u64 (a.fdiv (2 ^ 33))) := fun a => akShrL _ _ a 33 (by decide)
  simp +decide only [Nat.reduceAdd, Nat.reduceMul, Int.reduceToNat, ak, g8]
  refine hJ7 _ ?_
  obtain ⟨j9, h10, hn⟩ := of_bind h
  refine seq_j (fun st => st = ⟨[(1, .c (.sc (.int .i64 a1))), (5, .c (.sc (.int .u64 j9.1)))], [(.arg 0, ⟨.box, 0, [.ref (.arg 1) [] o1 l0_0.length, .sc (.int .i64 j9.2), .sc (.int .u64 (IntKind.u64.wrap ((IntKind.u64.wrap (a0_2 * 6364136223846793005)) + 1442695040888963407)))]⟩), (.arg 1, ⟨.fz, 1, cs1⟩)], [], []⟩) (fun J11 hJ11 => ?_) ?_
  ·replace h := h10; clear hn
   refine ga_k fun G12 G12n G12r G12x => ?_
   refine sd_k fun J13 hJ13 => ?_
   simp +decide only [Nat.reduceAdd, Nat.reduceMul, Int.reduceToNat, ak]
   refine hJ13 _ ?_
   refine cond_k (b := decide (a0_1 < (l0_0.length : Int))) rfl (fun c15 => ?_) (fun c15 => ?_)
   ·replace c15 := of_decide_eq_true c15; rw [if_pos c15] at h
    refine sd_k fun J16 hJ16 => ?_
    obtain ⟨b17, h⟩ := of_guard h
    have g18 : (cs1)[o1 + a0_1.toNat * 1]? = some (.sc (.int .u8 (rd 0 l0_0 a0_1))) := hv1.get 0 0 b17.1 b17.2 (by decide)
    simp +decide only [Nat.reduceAdd, Nat.reduceMul, Int.reduceToNat, ak, b17, g18]
    refine hJ16 _ ?_
    refine reg_k ?_
    simp +decide only [Nat.reduceAdd, Nat.reduceMul, Int.reduceToNat, ak]
    obtain rfl := Option.some.inj h
    refine G12n _ _ (wk [1, 5] [pI (.arg 0) .box, pI (.arg 1) .fz]) (hJ11 _ rfl)
   ·replace c15 := of_decide_eq_false c15; rw [if_neg c15] at h
    obtain rfl := Option.some.inj h
    refine G12n _ _ (wk [1, 5] [pI (.arg 0) .box, pI (.arg 1) .fz]) (hJ11 _ rfl)
  ·replace h := hn; clear hn h10
   rintro _ rfl
   refine sr_k fun J19 hJ19 => ?_
   obtain ⟨b20, h⟩ := of_guard h
   simp +decide only [Nat.reduceAdd, Nat.reduceMul, Int.reduceToNat, ak, b20]
   refine hJ19 _ ?_
   obtain rfl := Option.some.inj h
   refine hKr _ ⟨_, rfl, [], _, rfl, rfl, ?_⟩
   exact cl
/-! ### spec.l4DrawConfig: function 84 -/
def C84 : AC := .sr [.o (.alloc 2 [.int .u32 0, .int .i64 0, .int .i64 0, .int .i64 0, .int .i64 0, .int .i64 0]), .keep [0, 2]] (.sr [.m 4 0, .call none (some 5) 69 [.tmp 4, .const (.int .i64 100)], .o (.conv 6 .u32 (.t 5)), .m 7 0, .call none (some 8) 69 [.tmp 7, .const (.int .i64 6)], .o (.bin 9 .add (.k 1) (.t 8)), .m 10 0, .call none (some 11) 69 [.tmp 10, .const (.int .i64 4)], .o (.bin 12 .add (.k 1) (.t 11)), .m 13 0, .call none (some 14) 69 [.tmp 13, .const (.int .i64 4)], .o (.bin 15 .add (.k 1) (.t 14)), .m 16 0, .call none (some 17) 69 [.tmp 16, .const (.int .i64 4)], .o (.bin 18 .add (.k 1) (.t 17)), .o (.build 19 [.int .u32 0, .int .i64 0, .int .i64 0, .int .i64 0, .int .i64 0, .int .i64 0] [(0, 1, .tmp 6), (1, 1, .tmp 9), (2, 1, .tmp 12), (4, 1, .tmp 15), (5, 1, .tmp 18)]), .o (.alloc 3 [.int .u32 0, .int .i64 0, .int .i64 0, .int .i64 0, .int .i64 0, .int .i64 0]), .st 6 3 19, .keep [0, 2, 3]] (.seq (.ga (.sr [.m 20 0, .call none (some 21) 69 [.tmp 20, .const (.int .i64 2)], .o (.bin 22 .eql (.t 21) (.k 0)), .keep [0, 2, 3, 22]] (.cond (.t 22) (.reg [.m 23 0, .call none (some 24) 69 [.tmp 23, .const (.int .i64 12)], .o (.conv 25 .u32 (.t 24)), .o (.bin 26 .sub (.const (.int .u32 4294967295)) (.t 25)), .fa 27 0 3, .st 1 27 26, .keep [0, 2, 3]]) (.skip)))) (.seq (.regD (.f (.fa 28 2 3) (.f (.m 30 0) (.pin [6, 5, 4] (.ld 29 1 28) (.alt (.call none (some 31) 69 [.tmp 30, .const (.int .i64 12)]) none (.pin [6, 5] (.o (.bin 32 .add (.t 29) (.t 31))) (.pin [6] (.fa 33 3 3) (.alt (.st 1 33 32) (some 6) (.done) (.stop)))) (.stop))))) [0, 2, 3]) (.seq (.ga (.sr [.m 34 0, .call none (some 35) 69 [.tmp 34, .const (.int .i64 10)], .o (.bin 36 .eql (.t 35) (.k 0)), .keep [2, 3, 36]] (.cond (.t 36) (.reg [.fa 37 0 3, .ld 38 1 37, .o (.build 39 [.int .u32 0, .int .i64 0, .int .i64 0, .int .i64 0, .int .i64 0, .int .i64 0] [(0, 1, .tmp 38), (1, 1, .const (.int .i64 16)), (2, 1, .const (.int .i64 50)), (3, 1, .const (.int .i64 400)), (4, 1, .const (.int .i64 8)), (5, 1, .const (.int .i64 50))]), .st 6 3 39, .keep [2, 3]]) (.skip)))) (.sr [.o (.load 40 true 6 (.t 3)), .st 6 2 40, .keep [2]] (.ret))))))
def r84 : List RV := [.cell 2 true 6]
theorem k84 : compC Try.prog 41 C84 (Try.f84.body.getD .skip) = some C84.erase := by kernel_rfl
theorem q84 : rvsOf Try.prog Try.f84.results.toList = some r84 := by kernel_rfl
def spec_l4DrawConfig.f (l0_0 : List Int) (a0_1 : Int) (a0_2 : Int) : Option (Int × Int × Int × Int × Int × Int × Int × Int) := (spec_l1Next.f l0_0 a0_1 a0_2 100 >>= fun t3 => (spec_l1Next.f l0_0 t3.2.1 t3.2.2 6 >>= fun t6 => (spec_l1Next.f l0_0 t6.2.1 t6.2.2 4 >>= fun t9 => (spec_l1Next.f l0_0 t9.2.1 t9.2.2 4 >>= fun t12 => (spec_l1Next.f l0_0 t12.2.1 t12.2.2 4 >>= fun t15 => ((spec_l1Next.f l0_0 t15.2.1 t15.2.2 2 >>= fun t23 => (if t23.1 = 0 then (spec_l1Next.f l0_0 t23.2.1 t23.2.2 12 >>= fun t27 => (some (t27.2.1, t27.2.2, IntKind.u32.wrap (4294967295 - (IntKind.u32.wrap t27.1))))) else (some (t23.2.1, t23.2.2, IntKind.u32.wrap t3.1)))) >>= fun (j18 : Int × Int × Int) => (spec_l1Next.f l0_0 j18.1 j18.2.1 12 >>= fun t31 => ((spec_l1Next.f l0_0 t31.2.1 t31.2.2 10 >>= fun t40 => (if t40.1 = 0 then (some (t40.2.1, t40.2.2, 16, 50, 400, 8, 50)) else (some (t40.2.1, t40.2.2, IntKind.i64.wrap (1 + t6.1), IntKind.i64.wrap (1 + t9.1), IntKind.i64.wrap ((IntKind.i64.wrap (1 + t9.1)) + t31.1), IntKind.i64.wrap (1 + t12.1), IntKind.i64.wrap (1 + t15.1))))) >>= fun (j35 : Int × Int × Int × Int × Int × Int × Int) => (some (j18.2.2, j35.2.2.1, j35.2.2.2.1, j35.2.2.2.2.1, j35.2.2.2.2.2.1, j35.2.2.2.2.2.2, j35.1, j35.2.1))))))))))
theorem spec_l4DrawConfig.tri (cs1 : List Cell) (o1 : Nat) (l0_0 : List Int) (hv1 : Vw c_u8 1 cs1 o1 l0_0) (a0_1 : Int) (a0_2 : Int) (r : Int × Int × Int × Int × Int × Int × Int × Int) (h : spec_l4DrawConfig.f l0_0 a0_1 a0_2 = some r) : Tri Try.prog 84 [.c (.ptr (.arg 0) [] 0)] [(.arg 0, ⟨.box, 0, [.ref (.arg 1) [] o1 l0_0.length, .sc (.int .i64 a0_1), .sc (.int .u64 a0_2)]⟩), (.arg 1, ⟨.fz, 1, cs1⟩)] (fun o => o = ⟨.g [.sc (.int .u32 r.1), .sc (.int .i64 r.2.1), .sc (.int .i64 r.2.2.1), .sc (.int .i64 r.2.2.2.1), .sc (.int .i64 r.2.2.2.2.1), .sc (.int .i64 r.2.2.2.2.2.1)], [(.arg 0, ⟨.box, 0, [.ref (.arg 1) [] o1 l0_0.length, .sc (.int .i64 r.2.2.2.2.2.2.1), .sc (.int .u64 r.2.2.2.2.2.2.2)]⟩), (.arg 1, ⟨.fz, 1, cs1⟩)], [], []⟩) := by
 refine tri_of_body (ac := C84) (xs := r84) Try.func84 (show Try.f84.body = some (Try.f84.body.getD .skip) from rfl) k84 q84 (Nat.le_of_ble_eq_true rfl) ?_
 refine body_of fun K hKn hKr => ?_
 unfold spec_l4DrawConfig.f at h
 unfold C84
 simp only [initT, Nat.reduceAdd]
 refine sr_k fun J1 hJ1 => ?_
 simp +decide only [Nat.reduceAdd, Nat.reduceMul, Int.reduceToNat, ak]
 refine hJ1 _ ?_
 refine sr_k fun J2 hJ2 => ?_
 simp +decide only [Nat.reduceAdd, Nat.reduceMul, Int.reduceToNat, ak]
 obtain ⟨t3, h4, h⟩ := of_bind h
 refine cm [pI (.arg 0) .box, pI (.arg 1) .fz] (spec_l1Next.tri (cs1) o1 l0_0 hv1 a0_1 a0_2 100 _ h4) (fun hl4 => ?_)
 refine cs (mW [.ref (.arg 1) [] o1 l0_0.length, .sc (.int .i64 t3.2.1), .sc (.int .u64 t3.2.2)] (mF (mN ..))) ?_ (s4 := [(.arg 0, ⟨.box, 0, [.ref (.arg 1) [] o1 l0_0.length, .sc (.int .i64 t3.2.1), .sc (.int .u64 t3.2.2)]⟩), (.arg 1, ⟨.fz, 1, cs1⟩), (.tmp 2 0, ⟨.box, 0, [.sc (.int .u32 0), .sc (.int .i64 0), .sc (.int .i64 0), .sc (.int .i64 0), .sc (.int .i64 0), .sc (.int .i64 0)]⟩)])
 simp +decide only [Nat.reduceAdd, Nat.reduceMul, Int.reduceToNat, ak]
 obtain ⟨t6, h7, h⟩ := of_bind h
 refine cm [pI (.arg 0) .box, pI (.arg 1) .fz] (spec_l1Next.tri (cs1) o1 l0_0 hv1 t3.2.1 t3.2.2 6 _ h7) (fun hl7 => ?_)
 refine cs (mW [.ref (.arg 1) [] o1 l0_0.length, .sc (.int .i64 t6.2.1), .sc (.int .u64 t6.2.2)] (mF (mN ..))) ?_ (s4 := [(.arg 0, ⟨.box, 0, [.ref (.arg 1) [] o1 l0_0.length, .sc (.int .i64 t6.2.1), .sc (.int .u64 t6.2.2)]⟩), (.arg 1, ⟨.fz, 1, cs1⟩), (.tmp 2 0, ⟨.box, 0, [.sc (.int .u32 0), .sc (.int .i64 0), .sc (.int .i64 0), .sc (.int .i64 0), .sc (.int .i64 0), .sc (.int .i64 0)]⟩)])
 simp +decide only [Nat.reduceAdd, Nat.reduceMul, Int.reduceToNat, ak]
 obtain ⟨t9, h10, h⟩ := of_bind h
 refine cm [pI (.arg 0) .box, pI (.arg 1) .fz] (spec_l1Next.tri (cs1) o1 l0_0 hv1 t6.2.1 t6.2.2 4 _ h10) (fun hl10 => ?_)
 refine cs (mW [.ref (.arg 1) [] o1 l0_0.length, .sc (.int .i64 t9.2.1), .sc (.int .u64 t9.2.2)] (mF (mN ..))) ?_ (s4 := [(.arg 0, ⟨.box, 0, [.ref (.arg 1) [] o1 l0_0.length, .sc (.int .i64 t9.2.1), .sc (.int .u64 t9.2.2)]⟩), (.arg 1, ⟨.fz, 1, cs1⟩), (.tmp 2 0, ⟨.box, 0, [.sc (.int .u32 0), .sc (.int .i64 0), .sc (.int .i64 0), .sc (.int .i64 0), .sc (.int .i64 0), .sc (.int .i64 0)]⟩)])
 simp +decide only [Nat.reduceAdd, Nat.reduceMul, Int.reduceToNat, ak]
 obtain ⟨t12, h13, h⟩ := of_bind h
 refine cm [pI (.arg 0) .box, pI (.arg 1) .fz] (spec_l1Next.tri (cs1) o1 l0_0 hv1 t9.2.1 t9.2.2 4 _ h13) (fun hl13 => ?_)
 refine cs (mW [.ref (.arg 1) [] o1 l0_0.length, .sc (.int .i64 t12.2.1), .sc (.int .u64 t12.2.2)] (mF (mN ..))) ?_ (s4 := [(.arg 0, ⟨.box, 0, [.ref (.arg 1) [] o1 l0_0.length, .sc (.int .i64 t12.2.1), .sc (.int .u64 t12.2.2)]⟩), (.arg 1, ⟨.fz, 1, cs1⟩), (.tmp 2 0, ⟨.box, 0, [.sc (.int .u32 0), .sc (.int .i64 0), .sc (.int .i64 0), .sc (.int .i64 0), .sc (.int .i64 0), .sc (.int .i64 0)]⟩)])
 simp +decide only [Nat.reduceAdd, Nat.reduceMul, Int.reduceToNat, ak]
 obtain ⟨t15, h16, h⟩ := of_bind h
 refine cm [pI (.arg 0) .box, pI (.arg 1) .fz] (spec_l1Next.tri (cs1) o1 l0_0 hv1 t12.2.1 t12.2.2 4 _ h16) (fun hl16 => ?_)
 refine cs (mW [.ref (.arg 1) [] o1 l0_0.length, .sc (.int .i64 t15.2.1), .sc (.int .u64 t15.2.2)] (mF (mN ..))) ?_ (s4 := [(.arg 0, ⟨.box, 0, [.ref (.arg 1) [] o1 l0_0.length, .sc (.int .i64 t15.2.1), .sc (.int .u64 t15.2.2)]⟩), (.arg 1, ⟨.fz, 1, cs1⟩), (.tmp 2 0, ⟨.box, 0, [.sc (.int .u32 0), .sc (.int .i64 0), .sc (.int .i64 0), .sc (.int .i64 0), .sc (.int .i64 0), .sc (.int .i64 0)]⟩)])
 simp +decide only [Nat.reduceAdd, Nat.reduceMul, Int.reduceToNat, ak]
 refine hJ2 _ ?_
 obtain ⟨j18, h19, hn⟩ := of_bind h
 refine seq_j (fun st => st = ⟨[(0, .c (.ptr (.arg 0) [] 0)), (2, .c (.ptr (.tmp 2 0) [] 0)), (3, .c (.ptr (.tmp 3 0) [] 0))], [(.arg 0, ⟨.box, 0, [.ref (.arg 1) [] o1 l0_0.length, .sc (.int .i64 j18.1), .sc (.int .u64 j18.2.1)]⟩), (.arg 1, ⟨.fz, 1, cs1⟩), (.tmp 2 0, ⟨.box, 0, [.sc (.int .u32 0), .sc (.int .i64 0), .sc (.int .i64 0), .sc (.int .i64 0), .sc (.int .i64 0), .sc (.int .i64 0)]⟩), (.tmp 3 0, ⟨.box, 0, [.sc (.int .u32 j18.2.2), .sc (.int .i64 (IntKind.i64.wrap (1 + t6.1))), .sc (.int .i64 (IntKind.i64.wrap (1 + t9.1))), .sc (.int .i64 0), .sc (.int .i64 (IntKind.i64.wrap (1 + t12.1))), .sc (.int .i64 (IntKind.i64.wrap (1 + t15.1)))]⟩)], [], []⟩) (fun J20 hJ20 => ?_) ?_
 ·replace h := h19; clear hn
  refine ga_k fun G21 G21n G21r G21x => ?_
  refine sr_k fun J22 hJ22 => ?_
  simp +decide only [Nat.reduceAdd, Nat.reduceMul, Int.reduceToNat, ak]
  obtain ⟨t23, h24, h⟩ := of_bind h
  refine cm [pI (.arg 0) .box, pI (.arg 1) .fz] (spec_l1Next.tri (cs1) o1 l0_0 hv1 t15.2.1 t15.2.2 2 _ h24) (fun hl24 => ?_)
  refine cs (mW [.ref (.arg 1) [] o1 l0_0.length, .sc (.int .i64 t23.2.1), .sc (.int .u64 t23.2.2)] (mF (mN ..))) ?_ (s4 := [(.arg 0, ⟨.box, 0, [.ref (.arg 1) [] o1 l0_0.length, .sc (.int .i64 t23.2.1), .sc (.int .u64 t23.2.2)]⟩), (.arg 1, ⟨.fz, 1, cs1⟩), (.tmp 2 0, ⟨.box, 0, [.sc (.int .u32 0), .sc (.int .i64 0), .sc (.int .i64 0), .sc (.int .i64 0), .sc (.int .i64 0), .sc (.int .i64 0)]⟩), (.tmp 3 0, ⟨.box, 0, [.sc (.int .u32 (IntKind.u32.wrap t3.1)), .sc (.int .i64 (IntKind.i64.wrap (1 + t6.1))), .sc (.int .i64 (IntKind.i64.wrap (1 + t9.1))), .sc (.int .i64 0), .sc (.int .i64 (IntKind.i64.wrap (1 + t12.1))), .sc (.int .i64 (IntKind.i64.wrap (1 + t15.1)))]⟩)])
  simp +decide only [Nat.reduceAdd, Nat.reduceMul, Int.reduceToNat, ak]
  refine hJ22 _ ?_
  refine cond_k (b := decide (t23.1 = 0)) rfl (fun c26 => ?_) (fun c26 => ?_)
  ·replace c26 := of_decide_eq_true c26; rw [if_pos c26] at h
   refine reg_k ?_
   simp +decide only [Nat.reduceAdd, Nat.reduceMul, Int.reduceToNat, ak]
   obtain ⟨t27, h28, h⟩ := of_bind h
   refine cm [pI (.arg 0) .box, pI (.arg 1) .fz] (spec_l1Next.tri (cs1) o1 l0_0 hv1 t23.2.1 t23.2.2 12 _ h28) (fun hl28 => ?_)
   refine cs (mW [.ref (.arg 1) [] o1 l0_0.length, .sc (.int .i64 t27.2.1), .sc (.int .u64 t27.2.2)] (mF (mN ..))) ?_ (s4 := [(.arg 0, ⟨.box, 0, [.ref (.arg 1) [] o1 l0_0.length, .sc (.int .i64 t27.2.1), .sc (.int .u64 t27.2.2)]⟩), (.arg 1, ⟨.fz, 1, cs1⟩), (.tmp 2 0, ⟨.box, 0, [.sc (.int .u32 0), .sc (.int .i64 0), .sc (.int .i64 0), .sc (.int .i64 0), .sc (.int .i64 0), .sc (.int .i64 0)]⟩), (.tmp 3 0, ⟨.box, 0, [.sc (.int .u32 (IntKind.u32.wrap t3.1)), .sc (.int .i64 (IntKind.i64.wrap (1 + t6.1))), .sc (.int .i64 (IntKind.i64.wrap (1 + t9.1))), .sc (.int .i64 0), .sc (.int .i64 (IntKind.i64.wrap (1 + t12.1))), .sc (.int .i64 (IntKind.i64.wrap (1 + t15.1)))]⟩)])
   simp +decide only [Nat.reduceAdd, Nat.reduceMul, Int.reduceToNat, ak]
   obtain rfl := Option.some.inj h
   refine G21n _ _ (wk [0, 2, 3] [pI (.arg 0) .box, pI (.arg 1) .fz, pI (.tmp 2 0) .box, pI (.tmp 3 0) .box]) (hJ20 _ rfl)
  ·replace c26 := of_decide_eq_false c26; rw [if_neg c26] at h
   obtain rfl := Option.some.inj h
   refine G21n _ _ (wk [0, 2, 3] [pI (.arg 0) .box, pI (.arg 1) .fz, pI (.tmp 2 0) .box, pI (.tmp 3 0) .box]) (hJ20 _ rfl)
 ·replace h := hn; clear hn h19
  rintro _ rfl
  refine sd_k fun J30 hJ30 => ?_
  simp +decide only [Nat.reduceAdd, Nat.reduceMul, Int.reduceToNat, ak]
  obtain ⟨t31, h32, h⟩ := of_bind h
  refine alt_e ?_
  ·simp +decide only [Nat.reduceAdd, Nat.reduceMul, Int.reduceToNat, ak]
   refine cm [pI (.arg 0) .box, pI (.arg 1) .fz] (spec_l1Next.tri (cs1) o1 l0_0 hv1 j18.1 j18.2.1 12 _ h32) (fun hl33 => ?_)
   refine cs (mW [.ref (.arg 1) [] o1 l0_0.length, .sc (.int .i64 t31.2.1), .sc (.int .u64 t31.2.2)] (mF (mN ..))) ?_ (s4 := [(.arg 0, ⟨.box, 0, [.ref (.arg 1) [] o1 l0_0.length, .sc (.int .i64 t31.2.1), .sc (.int .u64 t31.2.2)]⟩), (.arg 1, ⟨.fz, 1, cs1⟩), (.tmp 2 0, ⟨.box, 0, [.sc (.int .u32 0), .sc (.int .i64 0), .sc (.int .i64 0), .sc (.int .i64 0), .sc (.int .i64 0), .sc (.int .i64 0)]⟩), (.tmp 3 0, ⟨.box, 0, [.sc (.int .u32 j18.2.2), .sc (.int .i64 (IntKind.i64.wrap (1 + t6.1))), .sc (.int .i64 (IntKind.i64.wrap (1 + t9.1))), .sc (.int .i64 0), .sc (.int .i64 (IntKind.i64.wrap (1 + t12.1))), .sc (.int .i64 (IntKind.i64.wrap (1 + t15.1)))]⟩)])
   simp +decide only [Nat.reduceAdd, Nat.reduceMul, Int.reduceToNat, ak]
   refine alt_e ?_
   ·simp +decide only [Nat.reduceAdd, Nat.reduceMul, Int.reduceToNat, ak]
    refine hJ30 _ ?_
    obtain ⟨j35, h36, hn⟩ := of_bind h
    refine seq_j (fun st => st = ⟨[(2, .c (.ptr (.tmp 2 0) [] 0)), (3, .c (.ptr (.tmp 3 0) [] 0))], [(.arg 0, ⟨.box, 0, [.ref (.arg 1) [] o1 l0_0.length, .sc (.int .i64 j35.1), .sc (.int .u64 j35.2.1)]⟩), (.arg 1, ⟨.fz, 1, cs1⟩), (.tmp 2 0, ⟨.box, 0, [.sc (.int .u32 0), .sc (.int .i64 0), .sc (.int .i64 0), .sc (.int .i64 0), .sc (.int .i64 0), .sc (.int .i64 0)]⟩), (.tmp 3 0, ⟨.box, 0, [.sc (.int .u32 j18.2.2), .sc (.int .i64 j35.2.2.1), .sc (.int .i64 j35.2.2.2.1), .sc (.int .i64 j35.2.2.2.2.1), .sc (.int .i64 j35.2.2.2.2.2.1), .sc (.int .i64 j35.2.2.2.2.2.2)]⟩)], [], []⟩) (fun J37 hJ37 => ?_) ?_
    ·replace h := h36; clear hn
     refine ga_k fun G38 G38n G38r G38x => ?_
     refine sr_k fun J39 hJ39 => ?_
     simp +decide only [Nat.reduceAdd, Nat.reduceMul, Int.reduceToNat, ak]
     obtain ⟨t40, h41, h⟩ := of_bind h
     refine cm [pI (.arg 0) .box, pI (.arg 1) .fz] (spec_l1Next.tri (cs1) o1 l0_0 hv1 t31.2.1 t31.2.2 10 _ h41) (fun hl41 => ?_)
     refine cs (mW [.ref (.arg 1) [] o1 l0_0.length, .sc (.int .i64 t40.2.1), .sc (.int .u64 t40.2.2)] (mF (mN ..))) ?_ (s4 := [(.arg 0, ⟨.box, 0, [.ref (.arg 1) [] o1 l0_0.length, .sc (.int .i64 t40.2.1), .sc (.int .u64 t40.2.2)]⟩), (.arg 1, ⟨.fz, 1, cs1⟩), (.tmp 2 0, ⟨.box, 0, [.sc (.int .u32 0), .sc (.int .i64 0), .sc (.int .i64 0), .sc (.int .i64 0), .sc (.int .i64 0), .sc (.int .i64 0)]⟩), (.tmp 3 0, ⟨.box, 0, [.sc (.int .u32 j18.2.2), .sc (.int .i64 (IntKind.i64.wrap (1 + t6.1))), .sc (.int .i64 (IntKind.i64.wrap (1 + t9.1))), .sc (.int .i64 (IntKind.i64.wrap ((IntKind.i64.wrap (1 + t9.1)) + t31.1))), .sc (.int .i64 (IntKind.i64.wrap (1 + t12.1))), .sc (.int .i64 (IntKind.i64.wrap (1 + t15.1)))]⟩)])
     simp +decide only [Nat.reduceAdd, Nat.reduceMul, Int.reduceToNat, ak]
     refine hJ39 _ ?_
     refine cond_k (b := decide (t40.1 = 0)) rfl (fun c43 => ?_) (fun c43 => ?_)
     ·replace c43 := of_decide_eq_true c43; rw [if_pos c43] at h
      refine reg_k ?_
      simp +decide only [Nat.reduceAdd, Nat.reduceMul, Int.reduceToNat, ak]
      obtain rfl := Option.some.inj h
      refine G38n _ _ (wk [2, 3] [pI (.arg 0) .box, pI (.arg 1) .fz, pI (.tmp 2 0) .box, pI (.tmp 3 0) .box]) (hJ37 _ rfl)
     ·replace c43 := of_decide_eq_false c43; rw [if_neg c43] at h
      obtain rfl := Option.some.inj h
      refine G38n _ _ (wk [2, 3] [pI (.arg 0) .box, pI (.arg 1) .fz, pI (.tmp 2 0) .box, pI (.tmp 3 0) .box]) (hJ37 _ rfl)
    ·replace h := hn; clear hn h36
     rintro _ rfl
     refine sr_k fun J44 hJ44 => ?_
     simp +decide only [Nat.reduceAdd, Nat.reduceMul, Int.reduceToNat, ak]
     refine hJ44 _ ?_
     obtain rfl := Option.some.inj h
     refine hKr _ ⟨_, rfl, [], _, rfl, rfl, ?_⟩
     exact cl
/-! ### spec.l4Begin: function 127 -/
def C127 : AC := .sr [.o (.box 1 (.t 0)), .o (.alloc 2 [.int .u32 0, .int .i64 0, .int .i64 0, .int .i64 0, .int .i64 0, .int .i64 0, .slice none 0 0, .int .i64 0, .int .i64 0, .int .i64 0, .int .i64 0, .int .i64 0, .bool false]), .gh, .keep [1, 2]] (.sr [.o (.load 3 true 6 (.t 1)), .fa 4 2 1, .ld 5 1 4, .o (.build 6 [.int .u32 0, .int .i64 0, .int .i64 0, .int .i64 0, .int .i64 0, .int .i64 0, .slice none 0 0, .int .i64 0, .int .i64 0, .int .i64 0, .int .i64 0, .int .i64 0, .bool false] [(0, 6, .tmp 3), (9, 1, .tmp 5)]), .gh, .st 13 2 6, .keep [2]] (.ret))
def r127 : List RV := [.cell 2 true 13]
theorem k127 : compC Try.prog 7 C127 (Try.f127.body.getD .skip) = some C127.erase := by kernel_rfl
theorem q127 : rvsOf Try.prog Try.f127.results.toList = some r127 := by kernel_rfl
def spec_l4Begin.f (a0_0 : Int) (a0_1 : Int) (a0_2 : Int) (a0_3 : Int) (a0_4 : Int) (a0_5 : Int) : Option (Int × Int × Int × Int × Int × Int × (List Int) × Int × Int × Int × Int × Int × Bool) := (some (a0_0, a0_1, a0_2, a0_3, a0_4, a0_5, ([] : List Int), 0, 0, a0_2, 0, 0, false))
theorem spec_l4Begin.tri (a0_0 : Int) (a0_1 : Int) (a0_2 : Int) (a0_3 : Int) (a0_4 : Int) (a0_5 : Int) (r : Int × Int × Int × Int × Int × Int × (List Int) × Int × Int × Int × Int × Int × Bool) (h : spec_l4Begin.f a0_0 a0_1 a0_2 a0_3 a0_4 a0_5 = some r) : Tri Try.prog 127 [.g [.sc (.int .u32 a0_0), .sc (.int .i64 a0_1), .sc (.int .i64 a0_2), .sc (.int .i64 a0_3), .sc (.int .i64 a0_4), .sc (.int .i64 a0_5)]] [] (fun o => o = ⟨.g [.sc (.int .u32 r.1), .sc (.int .i64 r.2.1), .sc (.int .i64 r.2.2.1), .sc (.int .i64 r.2.2.2.1), .sc (.int .i64 r.2.2.2.2.1), .sc (.int .i64 r.2.2.2.2.2.1), .ref (.res 0) [] 0 r.2.2.2.2.2.2.1.length, .sc (.int .i64 r.2.2.2.2.2.2.2.1), .sc (.int .i64 r.2.2.2.2.2.2.2.2.1), .sc (.int .i64 r.2.2.2.2.2.2.2.2.2.1), .sc (.int .i64 r.2.2.2.2.2.2.2.2.2.2.1), .sc (.int .i64 r.2.2.2.2.2.2.2.2.2.2.2.1), .sc (.bool r.2.2.2.2.2.2.2.2.2.2.2.2)], [(.res 0, ⟨.lst, 1, encL c_i64 r.2.2.2.2.2.2.1⟩)], [], []⟩) := by
 refine tri_of_body (ac := C127) (xs := r127) Try.func127 (show Try.f127.body = some (Try.f127.body.getD .skip) from rfl) k127 q127 (Nat.le_of_ble_eq_true rfl) ?_
 refine body_of fun K hKn hKr => ?_
 unfold spec_l4Begin.f at h
 unfold C127
 simp only [initT, Nat.reduceAdd]
 refine sr_k fun J1 hJ1 => ?_
 simp +decide only [Nat.reduceAdd, Nat.reduceMul, Int.reduceToNat, ak]
 refine gho_k (Weak.own (.tmp 2 0) (cs' := [.sc (.int .u32 0), .sc (.int .i64 0), .sc (.int .i64 0), .sc (.int .i64 0), .sc (.int .i64 0), .sc (.int .i64 0), .own 1 (([] : List Int).length) (encL c_i64 ([] : List Int)), .sc (.int .i64 0), .sc (.int .i64 0), .sc (.int .i64 0), .sc (.int .i64 0), .sc (.int .i64 0), .sc (.bool false)]) rfl ⟨.inl rfl, .inl rfl, .inl rfl, .inl rfl, .inl rfl, .inl rfl, .inr ⟨rfl, _, rfl⟩, .inl rfl, .inl rfl, .inl rfl, .inl rfl, .inl rfl, .inl rfl, trivial⟩) ?_
 simp +decide only [Nat.reduceAdd, Nat.reduceMul, Int.reduceToNat, ak]
 refine hJ1 _ ?_
 refine sr_k fun J2 hJ2 => ?_
 simp +decide only [Nat.reduceAdd, Nat.reduceMul, Int.reduceToNat, ak]
 refine gho_k (Weak.nmg' 6 6 (.tmp 6 26) 1 (encL c_i64 ([] : List Int)) rfl rfl rfl rfl) ?_
 have g3 : (encL c_i64 ([] : List Int)).length = 0 * 1 := by simp [encL_length c_i64_w]
 simp +decide only [Nat.reduceAdd, Nat.reduceMul, Int.reduceToNat, ak, g3]
 refine hJ2 _ ?_
 obtain rfl := Option.some.inj h
 refine hKr _ ⟨_, rfl, [⟨(.tmp 2 0), [6], none, .lst⟩], _, rfl, rfl, ?_⟩
 exact cl
/-! ### spec.l4Out: function 128 -/
def C128 : AC := .sr [.o (.mv 2 (.k 0)), .keep [0]] (.seq (.regD (.f (.m 3 0) (.f (.o (.nilc 4 (.t 3))) (.f (.fa 5 6 4) (.f (.ld 6 1 5) (.f (.ln 7 6) (.f (.m 8 0) (.f (.o (.nilc 9 (.t 8))) (.f (.fa 10 7 9) (.f (.ld 11 1 10) (.f (.o (.bin 12 .sub (.t 7) (.t 11))) (.f (.m 2 12) (.done)))))))))))) [2]) (.ret))
def r128 : List RV := [.tmp 2]
theorem k128 : compC Try.prog 13 C128 (Try.f128.body.getD .skip) = some C128.erase := by kernel_rfl
theorem q128 : rvsOf Try.prog Try.f128.results.toList = some r128 := by kernel_rfl
def spec_l4Out.f (a0_0 : Int) (a0_1 : Int) (a0_2 : Int) (a0_3 : Int) (a0_4 : Int) (a0_5 : Int) (l0_6 : List Int) (a0_7 : Int) (a0_8 : Int) (a0_9 : Int) (a0_10 : Int) (a0_11 : Int) (a0_12 : Bool) : Option Int := (some (IntKind.i64.wrap ((l0_6.length : Int) - a0_7)))
theorem spec_l4Out.tri (a0_0 : Int) (a0_1 : Int) (a0_2 : Int) (a0_3 : Int) (a0_4 : Int) (a0_5 : Int) (l0_6 : List Int) (a0_7 : Int) (a0_8 : Int) (a0_9 : Int) (a0_10 : Int) (a0_11 : Int) (a0_12 : Bool) (r : Int) (h : spec_l4Out.f a0_0 a0_1 a0_2 a0_3 a0_4 a0_5 l0_6 a0_7 a0_8 a0_9 a0_10 a0_11 a0_12 = some r) : Tri Try.prog 128 [.c (.ptr (.arg 0) [] 0)] [(.arg 0, ⟨.box, 0, [.sc (.int .u32 a0_0), .sc (.int .i64 a0_1), .sc (.int .i64 a0_2), .sc (.int .i64 a0_3), .sc (.int .i64 a0_4), .sc (.int .i64 a0_5), .own 1 l0_6.length (encL c_i64 l0_6), .sc (.int .i64 a0_7), .sc (.int .i64 a0_8), .sc (.int .i64 a0_9), .sc (.int .i64 a0_10), .sc (.int .i64 a0_11), .sc (.bool a0_12)]⟩)] (fun o => o = ⟨.c (.sc (.int .i64 r)), [(.arg 0, ⟨.box, 0, [.sc (.int .u32 a0_0), .sc (.int .i64 a0_1), .sc (.int .i64 a0_2), .sc (.int .i64 a0_3), .sc (.int .i64 a0_4), .sc (.int .i64 a0_5), .own 1 l0_6.length (encL c_i64 l0_6), .sc (.int .i64 a0_7), .sc (.int .i64 a0_8), .sc (.int .i64 a0_9), .sc (.int .i64 a0_10), .sc (.int .i64 a0_11), .sc (.bool a0_12)]⟩)], [], []⟩) := by
 refine tri_of_body (ac := C128) (xs := r128) Try.func128 (show Try.f128.body = some (Try.f128.body.getD .skip) from rfl) k128 q128 (Nat.le_of_ble_eq_true rfl) ?_
 refine body_of fun K hKn hKr => ?_
 unfold spec_l4Out.f at h
 unfold C128
 simp only [initT, Nat.reduceAdd]
 refine sr_k fun J1 hJ1 => ?_
 simp +decide only [Nat.reduceAdd, Nat.reduceMul, Int.reduceToNat, ak]
 refine hJ1 _ ?_
 refine sd_k fun J2 hJ2 => ?_
 simp +decide only [Nat.reduceAdd, Nat.reduceMul, Int.reduceToNat, ak]
 refine hJ2 _ ?_
 obtain rfl := Option.some.inj h
 refine hKr _ ⟨_, rfl, [], _, rfl, rfl, ?_⟩
 exact cl
/-! ### spec.l4Send: function 151 -/
def C151 : AC := .sr [.o (.alloc 4 [.int .i64 0, .slice none 0 0, .slice none 0 0, .int .i64 0, .int .i64 0]), .gh, .keep [0, 1, 4]] (.seq (.sr [.m 6 0, .o (.nilc 7 (.t 6)), .fa 8 12 7, .ld 9 1 8, .keep [0, 1, 4, 9]] (.cond (.t 9) (.sr [.o (.build 10 [.int .i64 0, .slice none 0 0, .slice none 0 0, .int .i64 0, .int .i64 0] [(0, 1, .const (.int .i64 10))]), .gh, .st 5 4 10, .keep [4]] (.gh .ret)) (.skip))) (.seq (.seq (.regD (.f (.m 11 0) (.f (.m 13 0) (.f (.o (.nilc 14 (.t 13))) (.f (.fa 15 0 14) (.f (.fa 16 1 15) (.pin [7] (.ld 17 1 16) (.alt (.call none (some 12) 128 [.tmp 11]) none (.pin [] (.o (.bin 18 .geq (.t 12) (.t 17))) (.done)) (.stop)))))))) [0, 1, 4, 18]) (.cond (.t 18) (.sr [.o (.build 19 [.int .i64 0, .slice none 0 0, .slice none 0 0, .int .i64 0, .int .i64 0] [(0, 1, .const (.int .i64 9))]), .gh, .st 5 4 19, .keep [4]] (.gh .ret)) (.skip))) (.seq (.regD (.f (.m 20 0) (.f (.o (.nilc 21 (.t 20))) (.f (.fa 22 0 21) (.f (.fa 23 0 22) (.f (.ld 24 1 23) (.f (.m 25 0) (.f (.o (.nilc 26 (.t 25))) (.f (.fa 27 6 26) (.f (.ld 28 1 27) (.f (.ln 29 28) (.f (.o (.conv 30 .u32 (.t 29))) (.f (.o (.bin 31 .add (.t 24) (.t 30))) (.f (.m 32 1) (.f (.o (.build 33 [.int .i64 0, .int .u32 0, .int .i64 0] [(0, 1, .const (.int .i64 1)), (1, 1, .tmp 31), (2, 1, .tmp 32)])) (.alt (.o (.alloc 5 [.int .i64 0, .int .u32 0, .int .i64 0])) none (.alt (.st 3 5 33) none (.done) (.stop)) (.stop)))))))))))))))) [0, 1, 4, 5]) (.sr [.m 34 0, .m 35 0, .o (.nilc 36 (.t 35)), .fa 37 6 36, .ld 38 1 37, .m 39 1, .o (.bslice 40 1 [.int .i64 0] 1 [(0, .tmp 39)]), .o (.app 41 1 8 true (.t 38) (.t 40)), .o (.nilc 42 (.t 34)), .fa 43 6 42, .st 1 43 41, .keep [0, 4, 5]] (.seq (.ga (.sr [.m 44 0, .o (.nilc 45 (.t 44)), .fa 46 8 45, .ld 47 1 46, .o (.bin 48 .eql (.t 47) (.k 0)), .keep [0, 4, 5, 48]] (.cond (.t 48) (.reg [.m 49 0, .m 50 0, .o (.nilc 51 (.t 50)), .fa 52 9 51, .ld 53 1 52, .o (.nilc 54 (.t 49)), .fa 55 8 54, .st 1 55 53, .keep [4, 5]]) (.skip)))) (.sr [.o (.load 56 true 3 (.t 5)), .o (.bslice 57 3 [.int .i64 0, .int .u32 0, .int .i64 0] 1 [(0, .tmp 56)]), .o (.build 58 [.int .i64 0, .slice none 0 0, .slice none 0 0, .int .i64 0, .int .i64 0] [(1, 1, .tmp 57)]), .gh, .st 5 4 58, .keep [4]] (.gh .ret)))))))
def r151 : List RV := [.cell 4 true 5]
theorem k151 : compC Try.prog 59 C151 (Try.f151.body.getD .skip) = some C151.erase := by kernel_rfl
theorem q151 : rvsOf Try.prog Try.f151.results.toList = some r151 := by kernel_rfl
def spec_l4Send.f (a0_0 : Int) (a0_1 : Int) (a0_2 : Int) (a0_3 : Int) (a0_4 : Int) (a0_5 : Int) (l0_6 : List Int) (a0_7 : Int) (a0_8 : Int) (a0_9 : Int) (a0_10 : Int) (a0_11 : Int) (a0_12 : Bool) (a1 : Int) : Option (Int × (List S68) × (List Int) × Int × Int × (List Int) × Int) := (if a0_12 = true then (some (10, ([] : List S68), ([] : List Int), 0, 0, l0_6, a0_8)) else (spec_l4Out.f a0_0 a0_1 a0_2 a0_3 a0_4 a0_5 l0_6 a0_7 a0_8 a0_9 a0_10 a0_11 a0_12 >>= fun t10 => (if t10 ≥ a0_1 then (some (9, ([] : List S68), ([] : List Int), 0, 0, l0_6, a0_8)) else (if (l0_6.length + 1) * 8 ≤ 140737488355328 then ((if a0_8 = 0 then (some a0_9) else (some a0_8)) >>= fun (j31 : Int) => (some (0, ([(⟨1, IntKind.u32.wrap (a0_0 + (IntKind.u32.wrap (l0_6.length : Int))), a1⟩ : S68)] : List S68), ([] : List Int), 0, 0, (l0_6 ++ ([a1] : List Int)), j31))) else none))))
theorem spec_l4Send.tri (a0_0 : Int) (a0_1 : Int) (a0_2 : Int) (a0_3 : Int) (a0_4 : Int) (a0_5 : Int) (l0_6 : List Int) (a0_7 : Int) (a0_8 : Int) (a0_9 : Int) (a0_10 : Int) (a0_11 : Int) (a0_12 : Bool) (a1 : Int) (r : Int × (List S68) × (List Int) × Int × Int × (List Int) × Int) (h : spec_l4Send.f a0_0 a0_1 a0_2 a0_3 a0_4 a0_5 l0_6 a0_7 a0_8 a0_9 a0_10 a0_11 a0_12 a1 = some r) : Tri Try.prog 151 [.c (.ptr (.arg 0) [] 0), .c (.sc (.int .i64 a1))] [(.arg 0, ⟨.box, 0, [.sc (.int .u32 a0_0), .sc (.int .i64 a0_1), .sc (.int .i64 a0_2), .sc (.int .i64 a0_3), .sc (.int .i64 a0_4), .sc (.int .i64 a0_5), .own 1 l0_6.length (encL c_i64 l0_6), .sc (.int .i64 a0_7), .sc (.int .i64 a0_8), .sc (.int .i64 a0_9), .sc (.int .i64 a0_10), .sc (.int .i64 a0_11), .sc (.bool a0_12)]⟩)] (fun o => o = ⟨.g [.sc (.int .i64 r.1), .ref (.res 0) [] 0 r.2.1.length, .ref (.res 1) [] 0 r.2.2.1.length, .sc (.int .i64 r.2.2.2.1), .sc (.int .i64 r.2.2.2.2.1)], [(.arg 0, ⟨.box, 0, [.sc (.int .u32 a0_0), .sc (.int .i64 a0_1), .sc (.int .i64 a0_2), .sc (.int .i64 a0_3), .sc (.int .i64 a0_4), .sc (.int .i64 a0_5), .own 1 r.2.2.2.2.2.1.length (encL c_i64 r.2.2.2.2.2.1), .sc (.int .i64 a0_7), .sc (.int .i64 r.2.2.2.2.2.2), .sc (.int .i64 a0_9), .sc (.int .i64 a0_10), .sc (.int .i64 a0_11), .sc (.bool a0_12)]⟩), (.res 0, ⟨.lst, 3, encL c68 r.2.1⟩), (.res 1, ⟨.lst, 1, encL c_i64 r.2.2.1⟩)], [0], []⟩) := by
 refine tri_of_body (ac := C151) (xs := r151) Try.func151 (show Try.f151.body = some (Try.f151.body.getD .skip) from rfl) k151 q151 (Nat.le_of_ble_eq_true rfl) ?_
 refine body_of fun K hKn hKr => ?_
 unfold spec_l4Send.f at h
 unfold C151
 simp only [initT, Nat.reduceAdd]
 refine sr_k fun J1 hJ1 => ?_
 simp +decide only [Nat.reduceAdd, Nat.reduceMul, Int.reduceToNat, ak]
 refine gho_k (Weak.own (.tmp 4 0) (cs' := [.sc (.int .i64 0), .own 3 (([] : List S68).length) (encL c68 ([] : List S68)), .own 1 (([] : List Int).length) (encL c_i64 ([] : List Int)), .sc (.int .i64 0), .sc (.int .i64 0)]) rfl ⟨.inl rfl, .inr ⟨rfl, _, rfl⟩, .inr ⟨rfl, _, rfl⟩, .inl rfl, .inl rfl, trivial⟩) ?_
 simp +decide only [Nat.reduceAdd, Nat.reduceMul, Int.reduceToNat, ak]
 refine hJ1 _ ?_
 refine seq_k fun J2 hJ2 => ?_
 refine sr_k fun J3 hJ3 => ?_
 simp +decide only [Nat.reduceAdd, Nat.reduceMul, Int.reduceToNat, ak]
 refine hJ3 _ ?_
 refine cond_k (b := a0_12) rfl (fun c4 => ?_) (fun c4 => ?_)
 ·rw [if_pos c4] at h
  refine sr_k fun J5 hJ5 => ?_
  simp +decide only [Nat.reduceAdd, Nat.reduceMul, Int.reduceToNat, ak]
  refine gho_k ((Weak.nmg' 10 1 (.tmp 10 21) 3 (encL c68 ([] : List S68)) rfl rfl rfl rfl).trans (Weak.nmg' 10 2 (.tmp 10 22) 1 (encL c_i64 ([] : List Int)) rfl rfl rfl rfl)) ?_
  have g6 : (encL c68 ([] : List S68)).length = 0 * 3 := by simp [encL_length c68_w]
  have g7 : (encL c_i64 ([] : List Int)).length = 0 * 1 := by simp [encL_length c_i64_w]
  simp +decide only [Nat.reduceAdd, Nat.reduceMul, Int.reduceToNat, ak, g6, g7]
  refine hJ5 _ ?_
  refine gh_k (Weak.mark [0] [] (by simp) (by simp)) ?_
  obtain rfl := Option.some.inj h
  refine hKr _ ⟨_, rfl, [⟨(.tmp 4 0), [1], none, .lst⟩, ⟨(.tmp 4 0), [2], none, .lst⟩], _, rfl, rfl, ?_⟩
  exact cl
 ·rw [if_neg (Bool.eq_false_iff.1 c4)] at h
  refine hJ2 _ ?_
  refine seq_k fun J8 hJ8 => ?_
  refine sd_k fun J9 hJ9 => ?_
  simp +decide only [Nat.reduceAdd, Nat.reduceMul, Int.reduceToNat, ak]
  obtain ⟨t10, h11, h⟩ := of_bind h
  refine alt_e ?_
  ·simp +decide only [Nat.reduceAdd, Nat.reduceMul, Int.reduceToNat, ak]
   refine cm [pI (.arg 0) .box] (spec_l4Out.tri a0_0 a0_1 a0_2 a0_3 a0_4 a0_5 l0_6 a0_7 a0_8 a0_9 a0_10 a0_11 a0_12 _ h11) (fun hl12 => ?_)
   refine cs (mW [.sc (.int .u32 a0_0), .sc (.int .i64 a0_1), .sc (.int .i64 a0_2), .sc (.int .i64 a0_3), .sc (.int .i64 a0_4), .sc (.int .i64 a0_5), .own 1 l0_6.length (encL c_i64 l0_6), .sc (.int .i64 a0_7), .sc (.int .i64 a0_8), .sc (.int .i64 a0_9), .sc (.int .i64 a0_10), .sc (.int .i64 a0_11), .sc (.bool a0_12)] (mN ..)) ?_ (s4 := [(.arg 0, ⟨.box, 0, [.sc (.int .u32 a0_0), .sc (.int .i64 a0_1), .sc (.int .i64 a0_2), .sc (.int .i64 a0_3), .sc (.int .i64 a0_4), .sc (.int .i64 a0_5), .own 1 l0_6.length (encL c_i64 l0_6), .sc (.int .i64 a0_7), .sc (.int .i64 a0_8), .sc (.int .i64 a0_9), .sc (.int .i64 a0_10), .sc (.int .i64 a0_11), .sc (.bool a0_12)]⟩), (.tmp 4 0, ⟨.box, 0, [.sc (.int .i64 0), .own 3 (([] : List S68).length) (encL c68 ([] : List S68)), .own 1 (([] : List Int).length) (encL c_i64 ([] : List Int)), .sc (.int .i64 0), .sc (.int .i64 0)]⟩)])
   simp +decide only [Nat.reduceAdd, Nat.reduceMul, Int.reduceToNat, ak]
   refine hJ9 _ ?_
   refine cond_k (b := decide (t10 ≥ a0_1)) rfl (fun c15 => ?_) (fun c15 => ?_)
   ·replace c15 := of_decide_eq_true c15; rw [if_pos c15] at h
    refine sr_k fun J16 hJ16 => ?_
    simp +decide only [Nat.reduceAdd, Nat.reduceMul, Int.reduceToNat, ak]
    refine gho_k ((Weak.nmg' 19 1 (.tmp 19 21) 3 (encL c68 ([] : List S68)) rfl rfl rfl rfl).trans (Weak.nmg' 19 2 (.tmp 19 22) 1 (encL c_i64 ([] : List Int)) rfl rfl rfl rfl)) ?_
    have g17 : (encL c68 ([] : List S68)).length = 0 * 3 := by simp [encL_length c68_w]
    have g18 : (encL c_i64 ([] : List Int)).length = 0 * 1 := by simp [encL_length c_i64_w]
    simp +decide only [Nat.reduceAdd, Nat.reduceMul, Int.reduceToNat, ak, g17, g18]
    refine hJ16 _ ?_
    refine gh_k (Weak.mark [0] [] (by simp) (by simp)) ?_
    obtain rfl := Option.some.inj h
    refine hKr _ ⟨_, rfl, [⟨(.tmp 4 0), [1], none, .lst⟩, ⟨(.tmp 4 0), [2], none, .lst⟩], _, rfl, rfl, ?_⟩
    exact cl
   ·replace c15 := of_decide_eq_false c15; rw [if_neg c15] at h
    refine hJ8 _ ?_
    refine sd_k fun J19 hJ19 => ?_
    simp +decide only [Nat.reduceAdd, Nat.reduceMul, Int.reduceToNat, ak]
    refine alt_e ?_
    ·simp +decide only [Nat.reduceAdd, Nat.reduceMul, Int.reduceToNat, ak]
     refine alt_e ?_
     ·simp +decide only [Nat.reduceAdd, Nat.reduceMul, Int.reduceToNat, ak]
      refine hJ19 _ ?_
      refine sr_k fun J20 hJ20 => ?_
      have g21 : (List.replicate 1 ([.int .i64 0] : List Value)).flatten = [.int .i64 0] := rfl
      have g22 : (⟨.lst, 1, [.sc (.int .i64 a1)]⟩ : Root) = ⟨.lst, 1, encL c_i64 ([a1] : List Int)⟩ := rfl
      have g23 : ([a1] : List Int).length = 1 := rfl
      have g24 : (encL c_i64 ([a1] : List Int)).length = 1 * 1 := by simp [encL_length c_i64_w]
      have g25 : (encL c_i64 ([a1] : List Int)).all nd = true := rfl
      obtain ⟨b26, h⟩ := of_guard h
      have g27 : appLim l0_6.length 1 8 := ⟨b26, by have := b26; omega⟩
      have g28 : (encL c_i64 l0_6).length = l0_6.length * 1 := by simp [encL_length c_i64_w]
      have g29 : encL c_i64 l0_6 ++ encL c_i64 ([a1] : List Int) = encL c_i64 (l0_6 ++ ([a1] : List Int)) := (encL_append _ _).symm
      have g30 : (encL c_i64 (l0_6 ++ ([a1] : List Int))).length = (l0_6.length + 1) * 1 := by simp [encL_length c_i64_w]
      simp +decide only [Nat.reduceAdd, Nat.reduceMul, Int.reduceToNat, ak, g21, g22, g23, g24, g25, g27, g28, g29, g30]
      refine hJ20 _ ?_
      obtain ⟨j31, h32, hn⟩ := of_bind h
      refine seq_j (fun st => st = ⟨[(4, .c (.ptr (.tmp 4 0) [] 0)), (5, .c (.ptr (.tmp 5 0) [] 0))], [(.arg 0, ⟨.box, 0, [.sc (.int .u32 a0_0), .sc (.int .i64 a0_1), .sc (.int .i64 a0_2), .sc (.int .i64 a0_3), .sc (.int .i64 a0_4), .sc (.int .i64 a0_5), .own 1 (l0_6.length + 1) (encL c_i64 (l0_6 ++ ([a1] : List Int))), .sc (.int .i64 a0_7), .sc (.int .i64 j31), .sc (.int .i64 a0_9), .sc (.int .i64 a0_10), .sc (.int .i64 a0_11), .sc (.bool a0_12)]⟩), (.tmp 4 0, ⟨.box, 0, [.sc (.int .i64 0), .own 3 (([] : List S68).length) (encL c68 ([] : List S68)), .own 1 (([] : List Int).length) (encL c_i64 ([] : List Int)), .sc (.int .i64 0), .sc (.int .i64 0)]⟩), (.tmp 5 0, ⟨.box, 0, [.sc (.int .i64 1), .sc (.int .u32 (IntKind.u32.wrap (a0_0 + (IntKind.u32.wrap (l0_6.length : Int))))), .sc (.int .i64 a1)]⟩)], [0], []⟩) (fun J33 hJ33 => ?_) ?_
      ·replace h := h32; clear hn
       refine ga_k fun G34 G34n G34r G34x => ?_
       refine sr_k fun J35 hJ35 => ?_
       simp +decide only [Nat.reduceAdd, Nat.reduceMul, Int.reduceToNat, ak]
       refine hJ35 _ ?_
       refine cond_k (b := decide (a0_8 = 0)) rfl (fun c38 => ?_) (fun c38 => ?_)
       ·replace c38 := of_decide_eq_true c38; rw [if_pos c38] at h
        refine reg_k ?_
        simp +decide only [Nat.reduceAdd, Nat.reduceMul, Int.reduceToNat, ak]
        obtain rfl := Option.some.inj h
        refine G34n _ _ (wkm [0] [] [4, 5] [pI (.arg 0) .box, pI (.tmp 4 0) .box, pI (.tmp 5 0) .box] (h0 := by first | rfl | simp +decide only [ak, akF, b26]) (h := by first | rfl | (simp +decide only [ak, akF, b26]; done) | (simp +decide [ak, akF, b26] <;> omega))) (hJ33 _ rfl)
       ·replace c38 := of_decide_eq_false c38; rw [if_neg c38] at h
        obtain rfl := Option.some.inj h
        refine G34n _ _ (wkm [0] [] [4, 5] [pI (.arg 0) .box, pI (.tmp 4 0) .box, pI (.tmp 5 0) .box] (h0 := by first | rfl | simp +decide only [ak, akF, b26]) (h := by first | rfl | (simp +decide only [ak, akF, b26]; done) | (simp +decide [ak, akF, b26] <;> omega))) (hJ33 _ rfl)
      ·replace h := hn; clear hn h32
       rintro _ rfl
       refine sr_k fun J39 hJ39 => ?_
       have g40 : (List.replicate 1 ([.int .i64 0, .int .u32 0, .int .i64 0] : List Value)).flatten = [.int .i64 0, .int .u32 0, .int .i64 0] := rfl
       have g41 : (⟨.lst, 3, [.sc (.int .i64 1), .sc (.int .u32 (IntKind.u32.wrap (a0_0 + (IntKind.u32.wrap (l0_6.length : Int))))), .sc (.int .i64 a1)]⟩ : Root) = ⟨.lst, 3, encL c68 ([(⟨1, IntKind.u32.wrap (a0_0 + (IntKind.u32.wrap (l0_6.length : Int))), a1⟩ : S68)] : List S68)⟩ := rfl
       have g42 : ([(⟨1, IntKind.u32.wrap (a0_0 + (IntKind.u32.wrap (l0_6.length : Int))), a1⟩ : S68)] : List S68).length = 1 := rfl
       simp +decide only [Nat.reduceAdd, Nat.reduceMul, Int.reduceToNat, ak, g40, g41, g42]
       refine gho_k (Weak.nmg' 58 2 (.tmp 58 22) 1 (encL c_i64 ([] : List Int)) rfl rfl rfl rfl) ?_
       have g43 : (encL c68 ([(⟨1, IntKind.u32.wrap (a0_0 + (IntKind.u32.wrap (l0_6.length : Int))), a1⟩ : S68)] : List S68)).length = 1 * 3 := by simp [encL_length c68_w]
       have g44 : (encL c_i64 ([] : List Int)).length = 0 * 1 := by simp [encL_length c_i64_w]
       simp +decide only [Nat.reduceAdd, Nat.reduceMul, Int.reduceToNat, ak, g43, g44]
       refine hJ39 _ ?_
       refine gh_k (Weak.mark [0] [] (by simp) (by simp)) ?_
       obtain rfl := Option.some.inj h
       refine hKr _ ⟨_, rfl, [⟨(.tmp 4 0), [1], none, .lst⟩, ⟨(.tmp 4 0), [2], none, .lst⟩], _, rfl, rfl, ?_⟩
       exact cl
/-! ### spec.l4Again: function 162 -/
def C162_l0 : AC := .seq (.sr [.m 10 4, .m 11 0, .o (.nilc 12 (.t 11)), .fa 13 6 12, .ld 14 1 13, .ln 15 14, .o (.bin 16 .lss (.t 10) (.t 15)), .keep [0, 3, 4, 16]] (.cond (.t 16) (.skip) (.gh (.exit 0)))) (.seq (.block 1 (.regD (.f (.m 19 3) (.f (.m 20 0) (.f (.o (.nilc 21 (.t 20))) (.f (.fa 22 0 21) (.f (.fa 23 0 22) (.f (.ld 24 1 23) (.f (.m 25 4) (.f (.o (.conv 26 .u32 (.t 25))) (.f (.o (.bin 27 .add (.t 24) (.t 26))) (.f (.m 28 0) (.f (.o (.nilc 29 (.t 28))) (.f (.fa 30 6 29) (.f (.ld 31 1 30) (.f (.m 32 4) (.f (.ia 33 1 31 32) (.f (.ld 34 1 33) (.f (.o (.build 35 [.int .i64 0, .int .u32 0, .int .i64 0] [(0, 1, .const (.int .i64 2)), (1, 1, .tmp 27), (2, 1, .tmp 34)])) (.alt (.o (.bslice 36 3 [.int .i64 0, .int .u32 0, .int .i64 0] 1 [(0, .tmp 35)])) none (.alt (.o (.app 37 3 24 false (.t 19) (.t 36))) none (.f (.m 3 37) (.done)) (.stop)) (.stop))))))))))))))))))) [0, 3, 4])) (.reg [.m 17 4, .o (.bin 18 .add (.t 17) (.k 1)), .m 4 18, .keep [0, 3, 4]]))
def C162 : AC := .sr [.o (.mv 2 (.const (.slice none 0 0))), .gh, .keep [0]] (.sr [.o (.bslice 5 3 [.int .i64 0, .int .u32 0, .int .i64 0] 0 []), .m 3 5, .keep [0, 3]] (.seq (.sr [.m 6 0, .o (.nilc 7 (.t 6)), .fa 8 7 7, .ld 9 1 8, .m 4 9, .keep [0, 3, 4]] (.block 0 (.gh (.loop (.ga C162_l0))))) (.sr [.m 38 3, .m 2 38, .keep [2]] (.ret))))
def r162 : List RV := [.tmp 2]
theorem k162 : compC Try.prog 39 C162 (Try.f162.body.getD .skip) = some C162.erase := by kernel_rfl
theorem q162 : rvsOf Try.prog Try.f162.results.toList = some r162 := by kernel_rfl
def spec_l4Again.l0 (x0_1 : Int) (x0_2 : Int) (x0_3 : Int) (x0_4 : Int) (x0_5 : Int) (x0_6 : Int) (x0_7 : (List Int)) (x0_8 : Int) (x0_9 : Int) (x0_10 : Int) (x0_11 : Int) (x0_12 : Int) (x0_13 : Bool) (x0_0 : Int) (x0_14 : (List S68)) : Option (List S68) := (if x0_0 < (x0_7.length : Int) then (if 0 ≤ x0_0 ∧ x0_0 < (x0_7.length : Int) then (if (x0_14.length + 1) * 24 ≤ 140737488355328 then (spec_l4Again.l0 x0_1 x0_2 x0_3 x0_4 x0_5 x0_6 x0_7 x0_8 x0_9 x0_10 x0_11 x0_12 x0_13 (IntKind.i64.wrap (x0_0 + 1)) (x0_14 ++ ([(⟨2, IntKind.u32.wrap (x0_1 + (IntKind.u32.wrap x0_0)), (rd 0 x0_7 x0_0)⟩ : S68)] : List S68))) else none) else none) else (some x0_14))
 partial_fixpoint
def spec_l4Again.f (a0_0 : Int) (a0_1 : Int) (a0_2 : Int) (a0_3 : Int) (a0_4 : Int) (a0_5 : Int) (l0_6 : List Int) (a0_7 : Int) (a0_8 : Int) (a0_9 : Int) (a0_10 : Int) (a0_11 : Int) (a0_12 : Bool) : Option (List S68) := (spec_l4Again.l0 a0_0 a0_1 a0_2 a0_3 a0_4 a0_5 l0_6 a0_7 a0_8 a0_9 a0_10 a0_11 a0_12 a0_7 ([] : List S68) >>= fun (y43 : (List S68)) => (some y43))
def spec_l4Again.l0_M (x0_1 : Int) (x0_2 : Int) (x0_3 : Int) (x0_4 : Int) (x0_5 : Int) (x0_6 : Int) (x0_7 : (List Int)) (x0_8 : Int) (x0_9 : Int) (x0_10 : Int) (x0_11 : Int) (x0_12 : Int) (x0_13 : Bool) (x0_0 : Int) (x0_14 : (List S68)) (y : (List S68)) : Prop := ∀ (K : AE → St → Prop), (K (.exit 0) ⟨[(3, .c (.ref (.tmp 5 0) [] 0 y.length))], [(.arg 0, ⟨.box, 0, [.sc (.int .u32 x0_1), .sc (.int .i64 x0_2), .sc (.int .i64 x0_3), .sc (.int .i64 x0_4), .sc (.int .i64 x0_5), .sc (.int .i64 x0_6), .own 1 x0_7.length (encL c_i64 x0_7), .sc (.int .i64 x0_8), .sc (.int .i64 x0_9), .sc (.int .i64 x0_10), .sc (.int .i64 x0_11), .sc (.int .i64 x0_12), .sc (.bool x0_13)]⟩), (.tmp 5 0, ⟨.lst, 3, encL c68 y⟩)], [], []⟩) → loopS Try.prog 39 (.ga C162_l0) K ⟨[(0, .c (.ptr (.arg 0) [] 0)), (3, .c (.ref (.tmp 5 0) [] 0 x0_14.length)), (4, .c (.sc (.int .i64 x0_0)))], [(.arg 0, ⟨.box, 0, [.sc (.int .u32 x0_1), .sc (.int .i64 x0_2), .sc (.int .i64 x0_3), .sc (.int .i64 x0_4), .sc (.int .i64 x0_5), .sc (.int .i64 x0_6), .own 1 x0_7.length (encL c_i64 x0_7), .sc (.int .i64 x0_8), .sc (.int .i64 x0_9), .sc (.int .i64 x0_10), .sc (.int .i64 x0_11), .sc (.int .i64 x0_12), .sc (.bool x0_13)]⟩), (.tmp 5 0, ⟨.lst, 3, encL c68 x0_14⟩)], [], []⟩
theorem spec_l4Again.l0_walk (x0_1 : Int) (x0_2 : Int) (x0_3 : Int) (x0_4 : Int) (x0_5 : Int) (x0_6 : Int) (x0_7 : (List Int)) (x0_8 : Int) (x0_9 : Int) (x0_10 : Int) (x0_11 : Int) (x0_12 : Int) (x0_13 : Bool) (x0_0 : Int) (x0_14 : (List S68)) (y : (List S68)) (h : spec_l4Again.l0 x0_1 x0_2 x0_3 x0_4 x0_5 x0_6 x0_7 x0_8 x0_9 x0_10 x0_11 x0_12 x0_13 x0_0 x0_14 = some y) : spec_l4Again.l0_M x0_1 x0_2 x0_3 x0_4 x0_5 x0_6 x0_7 x0_8 x0_9 x0_10 x0_11 x0_12 x0_13 x0_0 x0_14 y := by
 refine spec_l4Again.l0.partial_correctness x0_1 x0_2 x0_3 x0_4 x0_5 x0_6 x0_7 x0_8 x0_9 x0_10 x0_11 x0_12 x0_13 (motive := fun x0_0 x0_14 y => spec_l4Again.l0_M x0_1 x0_2 x0_3 x0_4 x0_5 x0_6 x0_7 x0_8 x0_9 x0_10 x0_11 x0_12 x0_13 x0_0 x0_14 y) ?_ x0_0 x0_14 y h
 clear h
 unfold spec_l4Again.l0_M
 intro rec ih x0_0 x0_14 y h K hx0
 refine loop_unroll (ga_k fun G0 G0n G0r G0x => ?_)
 unfold C162_l0
 refine seq_k fun J9 hJ9 => ?_
 refine sr_k fun J10 hJ10 => ?_
 simp +decide only [Nat.reduceAdd, Nat.reduceMul, Int.reduceToNat, ak]
 refine hJ10 _ ?_
 refine cond_k (b := decide (x0_0 < (x0_7.length : Int))) rfl (fun c11 => ?_) (fun c11 => ?_)
 ·replace c11 := of_decide_eq_true c11; rw [if_pos c11] at h
  refine hJ9 _ ?_
  refine seq_k fun J12 hJ12 => ?_
  refine block_k fun B13 B13n B13x B13r B13j => ?_
  refine regD_k ?_
  obtain ⟨b14, h⟩ := of_guard h
  have g15 : (encL c_i64 x0_7)[0 + x0_0.toNat * 1]? = some (.sc (.int .i64 (rd 0 x0_7 x0_0))) := (Vw.whole c_i64_w x0_7).get 0 0 b14.1 b14.2 (by decide)
  simp +decide only [Nat.reduceAdd, Nat.reduceMul, Int.reduceToNat, ak, b14, g15]
  obtain ⟨b21, h⟩ := of_guard h
  refine alt_e ?_
  ·have g30 : (List.replicate 1 ([.int .i64 0, .int .u32 0, .int .i64 0] : List Value)).flatten = [.int .i64 0, .int .u32 0, .int .i64 0] := rfl
   have g31 : (⟨.lst, 3, [.sc (.int .i64 2), .sc (.int .u32 (IntKind.u32.wrap (x0_1 + (IntKind.u32.wrap x0_0)))), .sc (.int .i64 (rd 0 x0_7 x0_0))]⟩ : Root) = ⟨.lst, 3, encL c68 ([(⟨2, IntKind.u32.wrap (x0_1 + (IntKind.u32.wrap x0_0)), (rd 0 x0_7 x0_0)⟩ : S68)] : List S68)⟩ := rfl
   have g32 : ([(⟨2, IntKind.u32.wrap (x0_1 + (IntKind.u32.wrap x0_0)), (rd 0 x0_7 x0_0)⟩ : S68)] : List S68).length = 1 := rfl
   simp +decide only [Nat.reduceAdd, Nat.reduceMul, Int.reduceToNat, ak, g30, g31, g32]
   refine alt_e ?_
   ·have g38 : (encL c68 ([(⟨2, IntKind.u32.wrap (x0_1 + (IntKind.u32.wrap x0_0)), (rd 0 x0_7 x0_0)⟩ : S68)] : List S68)).take 3 = encL c68 ([(⟨2, IntKind.u32.wrap (x0_1 + (IntKind.u32.wrap x0_0)), (rd 0 x0_7 x0_0)⟩ : S68)] : List S68) := by simpa using (Vw.whole c68_w ([(⟨2, IntKind.u32.wrap (x0_1 + (IntKind.u32.wrap x0_0)), (rd 0 x0_7 x0_0)⟩ : S68)] : List S68)).all
    have g39 : (encL c68 ([(⟨2, IntKind.u32.wrap (x0_1 + (IntKind.u32.wrap x0_0)), (rd 0 x0_7 x0_0)⟩ : S68)] : List S68)).all isSc = true := encL_all (fun _ => rfl) _
    have g40 : appLim x0_14.length 1 24 := ⟨b21, by have := b21; omega⟩
    have g41 : (encL c68 x0_14).length = x0_14.length * 3 := by simp [encL_length c68_w]
    have g42 : encL c68 x0_14 ++ encL c68 ([(⟨2, IntKind.u32.wrap (x0_1 + (IntKind.u32.wrap x0_0)), (rd 0 x0_7 x0_0)⟩ : S68)] : List S68) = encL c68 (x0_14 ++ ([(⟨2, IntKind.u32.wrap (x0_1 + (IntKind.u32.wrap x0_0)), (rd 0 x0_7 x0_0)⟩ : S68)] : List S68)) := (encL_append _ _).symm
    simp +decide only [Nat.reduceAdd, Nat.reduceMul, Int.reduceToNat, ak, g38, g39, g40, g41, g42]
    refine B13n _ ?_
    refine hJ12 _ ?_
    refine reg_k ?_
    simp +decide only [Nat.reduceAdd, Nat.reduceMul, Int.reduceToNat, ak]
    refine G0n _ _ (wj [0, 3, 4] [pI (.arg 0) .box, pI (.tmp 5 0) .lst]) (ih _ _ _ h K hx0)
 ·replace c11 := of_decide_eq_false c11; rw [if_neg c11] at h
  obtain rfl := Option.some.inj h
  refine gh_k (wk [3] [pI (.arg 0) .box, pI (.tmp 5 0) .lst]) ?_
  refine G0x _ _ ?_
  exact hx0
theorem spec_l4Again.tri (a0_0 : Int) (a0_1 : Int) (a0_2 : Int) (a0_3 : Int) (a0_4 : Int) (a0_5 : Int) (l0_6 : List Int) (a0_7 : Int) (a0_8 : Int) (a0_9 : Int) (a0_10 : Int) (a0_11 : Int) (a0_12 : Bool) (r : (List S68)) (h : spec_l4Again.f a0_0 a0_1 a0_2 a0_3 a0_4 a0_5 l0_6 a0_7 a0_8 a0_9 a0_10 a0_11 a0_12 = some r) : Tri Try.prog 162 [.c (.ptr (.arg 0) [] 0)] [(.arg 0, ⟨.box, 0, [.sc (.int .u32 a0_0), .sc (.int .i64 a0_1), .sc (.int .i64 a0_2), .sc (.int .i64 a0_3), .sc (.int .i64 a0_4), .sc (.int .i64 a0_5), .own 1 l0_6.length (encL c_i64 l0_6), .sc (.int .i64 a0_7), .sc (.int .i64 a0_8), .sc (.int .i64 a0_9), .sc (.int .i64 a0_10), .sc (.int .i64 a0_11), .sc (.bool a0_12)]⟩)] (fun o => o = ⟨.c (.ref (.res 0) [] 0 r.length), [(.arg 0, ⟨.box, 0, [.sc (.int .u32 a0_0), .sc (.int .i64 a0_1), .sc (.int .i64 a0_2), .sc (.int .i64 a0_3), .sc (.int .i64 a0_4), .sc (.int .i64 a0_5), .own 1 l0_6.length (encL c_i64 l0_6), .sc (.int .i64 a0_7), .sc (.int .i64 a0_8), .sc (.int .i64 a0_9), .sc (.int .i64 a0_10), .sc (.int .i64 a0_11), .sc (.bool a0_12)]⟩), (.res 0, ⟨.lst, 3, encL c68 r⟩)], [], []⟩) := by
 refine tri_of_body (ac := C162) (xs := r162) Try.func162 (show Try.f162.body = some (Try.f162.body.getD .skip) from rfl) k162 q162 (Nat.le_of_ble_eq_true rfl) ?_
 refine body_of fun K hKn hKr => ?_
 unfold spec_l4Again.f at h
 unfold C162
 simp only [initT, Nat.reduceAdd]
 refine sr_k fun J1 hJ1 => ?_
 simp +decide only [Nat.reduceAdd, Nat.reduceMul, Int.reduceToNat, ak]
 refine gho_k (Weak.nm' 2 (.tmp 2 20) 3 (encL c68 ([] : List S68)) rfl rfl rfl) ?_
 simp +decide only [Nat.reduceAdd, Nat.reduceMul, Int.reduceToNat, ak]
 refine hJ1 _ ?_
 refine sr_k fun J2 hJ2 => ?_
 have g3 : (List.replicate 0 ([.int .i64 0, .int .u32 0, .int .i64 0] : List Value)).flatten = [] := rfl
 have g4 : (⟨.lst, 3, []⟩ : Root) = ⟨.lst, 3, encL c68 ([] : List S68)⟩ := rfl
 have g5 : ([] : List S68).length = 0 := rfl
 simp +decide only [Nat.reduceAdd, Nat.reduceMul, Int.reduceToNat, ak, g3, g4, g5]
 refine hJ2 _ ?_
 refine seq_k fun J6 hJ6 => ?_
 refine sr_k fun J7 hJ7 => ?_
 simp +decide only [Nat.reduceAdd, Nat.reduceMul, Int.reduceToNat, ak]
 refine hJ7 _ ?_
 refine block_k fun B8 B8n B8x B8r B8j => ?_
 obtain ⟨y43, h44, h⟩ := of_bind h
 refine gh_k (st' := ⟨[(0, .c (.ptr (.arg 0) [] 0)), (3, .c (.ref (.tmp 5 0) [] 0 (([] : List S68).length))), (4, .c (.sc (.int .i64 a0_7)))], [(.arg 0, ⟨.box, 0, [.sc (.int .u32 a0_0), .sc (.int .i64 a0_1), .sc (.int .i64 a0_2), .sc (.int .i64 a0_3), .sc (.int .i64 a0_4), .sc (.int .i64 a0_5), .own 1 l0_6.length (encL c_i64 l0_6), .sc (.int .i64 a0_7), .sc (.int .i64 a0_8), .sc (.int .i64 a0_9), .sc (.int .i64 a0_10), .sc (.int .i64 a0_11), .sc (.bool a0_12)]⟩), (.tmp 5 0, ⟨.lst, 3, encL c68 ([] : List S68)⟩)], [], []⟩) (wk [0, 3, 4] [pI (.arg 0) .box, pI (.tmp 5 0) .lst] (h := by first | rfl | (simp +decide only [ak, akF]; done) | (simp +decide [ak, akF] <;> omega))) ?_
 rw [e_loop]
 refine spec_l4Again.l0_walk a0_0 a0_1 a0_2 a0_3 a0_4 a0_5 l0_6 a0_7 a0_8 a0_9 a0_10 a0_11 a0_12 a0_7 ([] : List S68) _ h44 _ ?_
 refine B8x _ ?_
 refine hJ6 _ ?_
 refine sr_k fun J45 hJ45 => ?_
 simp +decide only [Nat.reduceAdd, Nat.reduceMul, Int.reduceToNat, ak]
 refine hJ45 _ ?_
 obtain rfl := Option.some.inj h
 refine hKr _ ⟨_, rfl, [⟨(.tmp 5 0), [], none, .lst⟩], _, rfl, rfl, ?_⟩
 exact cl
/-! ### spec.l4Clock: function 163 -/
def C163 : AC := .sr [.m 2 0, .m 3 0, .o (.nilc 4 (.t 3)), .fa 5 0 4, .fa 6 2 5, .ld 7 1 6, .o (.nilc 8 (.t 2)), .fa 9 9 8, .st 1 9 7, .keep [0]] (.sr [.m 10 0, .o (.nilc 11 (.t 10)), .fa 12 10 11, .o (.store 1 (.t 12) (.k 0)), .keep [0]] (.sr [.m 13 0, .o (.nilc 14 (.t 13)), .fa 15 8 14, .o (.store 1 (.t 15) (.k 0)), .keep [0]] (.sr [.m 16 0, .call none (some 17) 128 [.tmp 16], .o (.bin 18 .gtr (.t 17) (.k 0)), .keep [0, 18]] (.cond (.t 18) (.reg [.m 19 0, .m 20 0, .o (.nilc 21 (.t 20)), .fa 22 9 21, .ld 23 1 22, .o (.nilc 24 (.t 19)), .fa 25 8 24, .st 1 25 23, .keep []]) (.skip)))))
def r163 : List RV := []
theorem k163 : compC Try.prog 26 C163 (Try.f163.body.getD .skip) = some C163.erase := by kernel_rfl
theorem q163 : rvsOf Try.prog Try.f163.results.toList = some r163 := by kernel_rfl
def spec_l4Clock.f (a0_0 : Int) (a0_1 : Int) (a0_2 : Int) (a0_3 : Int) (a0_4 : Int) (a0_5 : Int) (l0_6 : List Int) (a0_7 : Int) (a0_8 : Int) (a0_9 : Int) (a0_10 : Int) (a0_11 : Int) (a0_12 : Bool) : Option (Int × Int × Int) := (spec_l4Out.f a0_0 a0_1 a0_2 a0_3 a0_4 a0_5 l0_6 a0_7 0 a0_2 0 a0_11 a0_12 >>= fun t5 => (if t5 > 0 then (some (a0_2, a0_2, 0)) else (some (0, a0_2, 0))))
theorem spec_l4Clock.tri (a0_0 : Int) (a0_1 : Int) (a0_2 : Int) (a0_3 : Int) (a0_4 : Int) (a0_5 : Int) (l0_6 : List Int) (a0_7 : Int) (a0_8 : Int) (a0_9 : Int) (a0_10 : Int) (a0_11 : Int) (a0_12 : Bool) (r : Int × Int × Int) (h : spec_l4Clock.f a0_0 a0_1 a0_2 a0_3 a0_4 a0_5 l0_6 a0_7 a0_8 a0_9 a0_10 a0_11 a0_12 = some r) : Tri Try.prog 163 [.c (.ptr (.arg 0) [] 0)] [(.arg 0, ⟨.box, 0, [.sc (.int .u32 a0_0), .sc (.int .i64 a0_1), .sc (.int .i64 a0_2), .sc (.int .i64 a0_3), .sc (.int .i64 a0_4), .sc (.int .i64 a0_5), .own 1 l0_6.length (encL c_i64 l0_6), .sc (.int .i64 a0_7), .sc (.int .i64 a0_8), .sc (.int .i64 a0_9), .sc (.int .i64 a0_10), .sc (.int .i64 a0_11), .sc (.bool a0_12)]⟩)] (fun o => o = ⟨.tup [], [(.arg 0, ⟨.box, 0, [.sc (.int .u32 a0_0), .sc (.int .i64 a0_1), .sc (.int .i64 a0_2), .sc (.int .i64 a0_3), .sc (.int .i64 a0_4), .sc (.int .i64 a0_5), .own 1 l0_6.length (encL c_i64 l0_6), .sc (.int .i64 a0_7), .sc (.int .i64 r.1), .sc (.int .i64 r.2.1), .sc (.int .i64 r.2.2), .sc (.int .i64 a0_11), .sc (.bool a0_12)]⟩)], [], []⟩) := by
 refine tri_of_body (ac := C163) (xs := r163) Try.func163 (show Try.f163.body = some (Try.f163.body.getD .skip) from rfl) k163 q163 (Nat.le_of_ble_eq_true rfl) ?_
 refine body_of fun K hKn hKr => ?_
 unfold spec_l4Clock.f at h
 unfold C163
 simp only [initT, Nat.reduceAdd]
 refine sr_k fun J1 hJ1 => ?_
 simp +decide only [Nat.reduceAdd, Nat.reduceMul, Int.reduceToNat, ak]
 refine hJ1 _ ?_
 refine sr_k fun J2 hJ2 => ?_
 simp +decide only [Nat.reduceAdd, Nat.reduceMul, Int.reduceToNat, ak]
 refine hJ2 _ ?_
 refine sr_k fun J3 hJ3 => ?_
 simp +decide only [Nat.reduceAdd, Nat.reduceMul, Int.reduceToNat, ak]
 refine hJ3 _ ?_
 refine sr_k fun J4 hJ4 => ?_
 simp +decide only [Nat.reduceAdd, Nat.reduceMul, Int.reduceToNat, ak]
 obtain ⟨t5, h6, h⟩ := of_bind h
 refine cm [pI (.arg 0) .box] (spec_l4Out.tri a0_0 a0_1 a0_2 a0_3 a0_4 a0_5 l0_6 a0_7 0 a0_2 0 a0_11 a0_12 _ h6) (fun hl6 => ?_)
 refine cs (mW [.sc (.int .u32 a0_0), .sc (.int .i64 a0_1), .sc (.int .i64 a0_2), .sc (.int .i64 a0_3), .sc (.int .i64 a0_4), .sc (.int .i64 a0_5), .own 1 l0_6.length (encL c_i64 l0_6), .sc (.int .i64 a0_7), .sc (.int .i64 0), .sc (.int .i64 a0_2), .sc (.int .i64 0), .sc (.int .i64 a0_11), .sc (.bool a0_12)] (mN ..)) ?_ (s4 := [(.arg 0, ⟨.box, 0, [.sc (.int .u32 a0_0), .sc (.int .i64 a0_1), .sc (.int .i64 a0_2), .sc (.int .i64 a0_3), .sc (.int .i64 a0_4), .sc (.int .i64 a0_5), .own 1 l0_6.length (encL c_i64 l0_6), .sc (.int .i64 a0_7), .sc (.int .i64 0), .sc (.int .i64 a0_2), .sc (.int .i64 0), .sc (.int .i64 a0_11), .sc (.bool a0_12)]⟩)])
 simp +decide only [Nat.reduceAdd, Nat.reduceMul, Int.reduceToNat, ak]
 refine hJ4 _ ?_
 refine cond_k (b := decide (t5 > 0)) rfl (fun c9 => ?_) (fun c9 => ?_)
 ·replace c9 := of_decide_eq_true c9; rw [if_pos c9] at h
  refine reg_k ?_
  simp +decide only [Nat.reduceAdd, Nat.reduceMul, Int.reduceToNat, ak]
  obtain rfl := Option.some.inj h
  refine hKn _ ⟨_, rfl, [], _, rfl, rfl, ?_⟩
  exact cl
 ·replace c9 := of_decide_eq_false c9; rw [if_neg c9] at h
  obtain rfl := Option.some.inj h
  refine hKn _ ⟨_, rfl, [], _, rfl, rfl, ?_⟩
  exact cl
/-! ### spec.l4Ack: function 152 -/
def C152_l0 : AC := .seq (.sr [.m 14 6, .m 15 0, .o (.nilc 16 (.t 15)), .fa 17 6 16, .ld 18 1 17, .ln 19 18, .o (.bin 20 .leq (.t 14) (.t 19)), .keep [0, 1, 4, 5, 6, 20]] (.cond (.t 20) (.skip) (.gh (.exit 0)))) (.seq (.ga (.block 1 (.sr [.m 23 0, .o (.nilc 24 (.t 23)), .fa 25 0 24, .fa 26 0 25, .ld 27 1 26, .m 28 6, .o (.conv 29 .u32 (.t 28)), .o (.bin 30 .add (.t 27) (.t 29)), .m 31 1, .o (.bin 32 .eql (.t 30) (.t 31)), .keep [0, 1, 4, 5, 6, 32]] (.cond (.t 32) (.reg [.m 33 6, .m 5 33, .keep [0, 1, 4, 5, 6]]) (.skip))))) (.reg [.m 21 6, .o (.bin 22 .add (.t 21) (.k 1)), .m 6 22, .keep [0, 1, 4, 5, 6]]))
def C152_l1 : AC := .seq (.sr [.m 42 8, .m 43 5, .o (.bin 44 .lss (.t 42) (.t 43)), .keep [0, 4, 5, 7, 8, 44]] (.cond (.t 44) (.skip) (.gh (.exit 2)))) (.seq (.block 3 (.regD (.f (.fa 47 2 7) (.f (.ld 48 1 47) (.f (.m 49 0) (.f (.o (.nilc 50 (.t 49))) (.f (.fa 51 6 50) (.f (.ld 52 1 51) (.f (.m 53 8) (.f (.ia 54 1 52 53) (.f (.ld 55 1 54) (.alt (.o (.bslice 56 1 [.int .i64 0] 1 [(0, .tmp 55)])) none (.alt (.o (.app 57 1 8 false (.t 48) (.t 56))) none (.f (.fa 58 2 7) (.alt (.st 1 58 57) none (.done) (.stop))) (.stop)) (.stop))))))))))) [0, 4, 5, 7, 8])) (.reg [.m 45 8, .o (.bin 46 .add (.t 45) (.k 1)), .m 8 46, .keep [0, 4, 5, 7, 8]]))
def C152 : AC := .sr [.o (.alloc 4 [.int .i64 0, .slice none 0 0, .slice none 0 0, .int .i64 0, .int .i64 0]), .gh, .keep [0, 1, 4]] (.sr [.o (.mv 5 (.const (.int .i64 (-1)))), .keep [0, 1, 4, 5]] (.seq (.sr [.m 10 0, .o (.nilc 11 (.t 10)), .fa 12 7 11, .ld 13 1 12, .m 6 13, .keep [0, 1, 4, 5, 6]] (.block 0 (.gh (.loop (.ga C152_l0))))) (.seq (.sr [.m 34 5, .o (.bin 35 .lss (.t 34) (.k 0)), .keep [0, 4, 5, 35]] (.cond (.t 35) (.sr [.o (.build 36 [.int .i64 0, .slice none 0 0, .slice none 0 0, .int .i64 0, .int .i64 0] [(0, 1, .const (.int .i64 11))]), .gh, .st 5 4 36, .keep [4]] (.ret)) (.skip))) (.sr [.o (.build 37 [.int .i64 0, .slice none 0 0, .slice none 0 0, .int .i64 0, .int .i64 0] []), .gh, .o (.alloc 7 [.int .i64 0, .slice none 0 0, .slice none 0 0, .int .i64 0, .int .i64 0]), .gh, .st 5 7 37, .keep [0, 4, 5, 7]] (.seq (.sr [.m 38 0, .o (.nilc 39 (.t 38)), .fa 40 7 39, .ld 41 1 40, .m 8 41, .keep [0, 4, 5, 7, 8]] (.block 2 (.gh (.loop (.ga C152_l1))))) (.sr [.m 59 5, .m 60 0, .o (.nilc 61 (.t 60)), .fa 62 7 61, .ld 63 1 62, .o (.bin 64 .gtr (.t 59) (.t 63)), .m 9 64, .keep [0, 4, 5, 7, 9]] (.sr [.m 65 0, .m 66 5, .o (.nilc 67 (.t 65)), .fa 68 7 67, .st 1 68 66, .keep [0, 4, 7, 9]] (.seq (.ga (.sr [.m 69 0, .o (.nilc 70 (.t 69)), .fa 71 12 70, .ld 72 1 71, .keep [0, 4, 7, 9, 72]] (.cond (.t 72) (.sr [.m 73 0, .o (.nilc 74 (.t 73)), .fa 75 12 74, .o (.store 1 (.t 75) (.const (.bool false))), .keep [0, 4, 7]] (.sr [.m 76 0, .o (.nilc 77 (.t 76)), .fa 78 11 77, .o (.store 1 (.t 78) (.k 0)), .keep [0, 4, 7]] (.sr [.fa 79 4 7, .o (.store 1 (.t 79) (.k 1)), .keep [0, 4, 7]] (.sr [.m 80 0, .call none (some 81) 162 [.tmp 80], .fa 82 1 7, .st 1 82 81, .keep [0, 4, 7]] (.reg [.m 83 0, .call none (some 84) 163 [.tmp 83], .keep [4, 7]]))))) (.sr [.m 85 9, .keep [0, 4, 7, 85]] (.cond (.t 85) (.reg [.m 86 0, .call none (some 87) 163 [.tmp 86], .keep [4, 7]]) (.skip)))))) (.sr [.o (.load 88 true 5 (.t 7)), .st 5 4 88, .keep [4]] (.ret))))))))))
def r152 : List RV := [.cell 4 true 5]
theorem k152 : compC Try.prog 89 C152 (Try.f152.body.getD .skip) = some C152.erase := by kernel_rfl
theorem q152 : rvsOf Try.prog Try.f152.results.toList = some r152 := by kernel_rfl
def spec_l4Ack.l0 (x0_0 : Int) (x0_3 : Int) (x0_4 : Int) (x0_5 : Int) (x0_6 : Int) (x0_7 : Int) (x0_8 : Int) (x0_9 : (List Int)) (x0_10 : Int) (x0_11 : Int) (x0_12 : Int) (x0_13 : Int) (x0_14 : Int) (x0_15 : Bool) (x0_16 : Int) (x0_17 : (List S68)) (x0_18 : (List Int)) (x0_19 : Int) (x0_20 : Int) (x0_1 : Int) (x0_2 : Int) : Option Int := (if x0_2 ≤ (x0_9.length : Int) then ((if IntKind.u32.wrap (x0_3 + (IntKind.u32.wrap x0_2)) = x0_0 then (some x0_2) else (some x0_1)) >>= fun (j10 : Int) => (spec_l4Ack.l0 x0_0 x0_3 x0_4 x0_5 x0_6 x0_7 x0_8 x0_9 x0_10 x0_11 x0_12 x0_13 x0_14 x0_15 x0_16 x0_17 x0_18 x0_19 x0_20 j10 (IntKind.i64.wrap (x0_2 + 1)))) else (some x0_1))
 partial_fixpoint
def spec_l4Ack.l1 (x1_0 : Int) (x1_2 : Int) (x1_3 : Int) (x1_4 : Int) (x1_5 : Int) (x1_6 : Int) (x1_7 : Int) (x1_8 : (List Int)) (x1_9 : Int) (x1_10 : Int) (x1_11 : Int) (x1_12 : Int) (x1_13 : Int) (x1_14 : Bool) (x1_15 : Int) (x1_16 : (List S68)) (x1_17 : (List Int)) (x1_18 : Int) (x1_19 : Int) (x1_20 : Int) (x1_21 : (List S68)) (x1_23 : Int) (x1_24 : Int) (x1_1 : Int) (x1_22 : (List Int)) : Option (List Int) := (if x1_1 < x1_0 then (if 0 ≤ x1_1 ∧ x1_1 < (x1_8.length : Int) then (if (x1_22.length + 1) * 8 ≤ 140737488355328 then (spec_l4Ack.l1 x1_0 x1_2 x1_3 x1_4 x1_5 x1_6 x1_7 x1_8 x1_9 x1_10 x1_11 x1_12 x1_13 x1_14 x1_15 x1_16 x1_17 x1_18 x1_19 x1_20 x1_21 x1_23 x1_24 (IntKind.i64.wrap (x1_1 + 1)) (x1_22 ++ ([(rd 0 x1_8 x1_1)] : List Int))) else none) else none) else (some x1_22))
 partial_fixpoint
def spec_l4Ack.f (a0_0 : Int) (a0_1 : Int) (a0_2 : Int) (a0_3 : Int) (a0_4 : Int) (a0_5 : Int) (l0_6 : List Int) (a0_7 : Int) (a0_8 : Int) (a0_9 : Int) (a0_10 : Int) (a0_11 : Int) (a0_12 : Bool) (a1 : Int) : Option (Int × (List S68) × (List Int) × Int × Int × Int × Int × Int × Int × Int × Bool) := (spec_l4Ack.l0 a1 a0_0 a0_1 a0_2 a0_3 a0_4 a0_5 l0_6 a0_7 a0_8 a0_9 a0_10 a0_11 a0_12 0 ([] : List S68) ([] : List Int) 0 0 (-1) a0_7 >>= fun (y17 : Int) => (if y17 < 0 then (some (11, ([] : List S68), ([] : List Int), 0, 0, a0_7, a0_8, a0_9, a0_10, a0_11, a0_12)) else (spec_l4Ack.l1 y17 a0_0 a0_1 a0_2 a0_3 a0_4 a0_5 l0_6 a0_7 a0_8 a0_9 a0_10 a0_11 a0_12 0 ([] : List S68) ([] : List Int) 0 0 0 ([] : List S68) 0 0 a0_7 ([] : List Int) >>= fun (y73 : (List Int)) => ((if a0_12 = true then (spec_l4Again.f a0_0 a0_1 a0_2 a0_3 a0_4 a0_5 l0_6 y17 a0_8 a0_9 a0_10 0 false >>= fun t87 => (spec_l4Clock.f a0_0 a0_1 a0_2 a0_3 a0_4 a0_5 l0_6 y17 a0_8 a0_9 a0_10 0 false >>= fun t91 => (some (t91.1, t91.2.1, t91.2.2, 0, false, t87, 1)))) else (if y17 > a0_7 then (spec_l4Clock.f a0_0 a0_1 a0_2 a0_3 a0_4 a0_5 l0_6 y17 a0_8 a0_9 a0_10 a0_11 a0_12 >>= fun t96 => (some (t96.1, t96.2.1, t96.2.2, a0_11, a0_12, ([] : List S68), 0))) else (some (a0_8, a0_9, a0_10, a0_11, a0_12, ([] : List S68), 0)))) >>= fun (j77 : Int × Int × Int × Int × Bool × (List S68) × Int) => (some (0, j77.2.2.2.2.2.1, y73, 0, j77.2.2.2.2.2.2, y17, j77.1, j77.2.1, j77.2.2.1, j77.2.2.2.1, j77.2.2.2.2.1))))))
def spec_l4Ack.l0_M (x0_0 : Int) (x0_3 : Int) (x0_4 : Int) (x0_5 : Int) (x0_6 : Int) (x0_7 : Int) (x0_8 : Int) (x0_9 : (List Int)) (x0_10 : Int) (x0_11 : Int) (x0_12 : Int) (x0_13 : Int) (x0_14 : Int) (x0_15 : Bool) (x0_16 : Int) (x0_17 : (List S68)) (x0_18 : (List Int)) (x0_19 : Int) (x0_20 : Int) (x0_1 : Int) (x0_2 : Int) (y : Int) : Prop := ∀ (K : AE → St → Prop), (K (.exit 0) ⟨[(0, .c (.ptr (.arg 0) [] 0)), (4, .c (.ptr (.tmp 4 0) [] 0)), (5, .c (.sc (.int .i64 y)))], [(.arg 0, ⟨.box, 0, [.sc (.int .u32 x0_3), .sc (.int .i64 x0_4), .sc (.int .i64 x0_5), .sc (.int .i64 x0_6), .sc (.int .i64 x0_7), .sc (.int .i64 x0_8), .own 1 x0_9.length (encL c_i64 x0_9), .sc (.int .i64 x0_10), .sc (.int .i64 x0_11), .sc (.int .i64 x0_12), .sc (.int .i64 x0_13), .sc (.int .i64 x0_14), .sc (.bool x0_15)]⟩), (.tmp 4 0, ⟨.box, 0, [.sc (.int .i64 x0_16), .own 3 x0_17.length (encL c68 x0_17), .own 1 x0_18.length (encL c_i64 x0_18), .sc (.int .i64 x0_19), .sc (.int .i64 x0_20)]⟩)], [], []⟩) → loopS Try.prog 89 (.ga C152_l0) K ⟨[(0, .c (.ptr (.arg 0) [] 0)), (1, .c (.sc (.int .u32 x0_0))), (4, .c (.ptr (.tmp 4 0) [] 0)), (5, .c (.sc (.int .i64 x0_1))), (6, .c (.sc (.int .i64 x0_2)))], [(.arg 0, ⟨.box, 0, [.sc (.int .u32 x0_3), .sc (.int .i64 x0_4), .sc (.int .i64 x0_5), .sc (.int .i64 x0_6), .sc (.int .i64 x0_7), .sc (.int .i64 x0_8), .own 1 x0_9.length (encL c_i64 x0_9), .sc (.int .i64 x0_10), .sc (.int .i64 x0_11), .sc (.int .i64 x0_12), .sc (.int .i64 x0_13), .sc (.int .i64 x0_14), .sc (.bool x0_15)]⟩), (.tmp 4 0, ⟨.box, 0, [.sc (.int .i64 x0_16), .own 3 x0_17.length (encL c68 x0_17), .own 1 x0_18.length (encL c_i64 x0_18), .sc (.int .i64 x0_19), .sc (.int .i64 x0_20)]⟩)], [], []⟩
theorem spec_l4Ack.l0_walk (x0_0 : Int) (x0_3 : Int) (x0_4 : Int) (x0_5 : Int) (x0_6 : Int) (x0_7 : Int) (x0_8 : Int) (x0_9 : (List Int)) (x0_10 : Int) (x0_11 : Int) (x0_12 : Int) (x0_13 : Int) (x0_14 : Int) (x0_15 : Bool) (x0_16 : Int) (x0_17 : (List S68)) (x0_18 : (List Int)) (x0_19 : Int) (x0_20 : Int) (x0_1 : Int) (x0_2 : Int) (y : Int) (h : spec_l4Ack.l0 x0_0 x0_3 x0_4 x0_5 x0_6 x0_7 x0_8 x0_9 x0_10 x0_11 x0_12 x0_13 x0_14 x0_15 x0_16 x0_17 x0_18 x0_19 x0_20 x0_1 x0_2 = some y) : spec_l4Ack.l0_M x0_0 x0_3 x0_4 x0_5 x0_6 x0_7 x0_8 x0_9 x0_10 x0_11 x0_12 x0_13 x0_14 x0_15 x0_16 x0_17 x0_18 x0_19 x0_20 x0_1 x0_2 y := by
 refine spec_l4Ack.l0.partial_correctness x0_0 x0_3 x0_4 x0_5 x0_6 x0_7 x0_8 x0_9 x0_10 x0_11 x0_12 x0_13 x0_14 x0_15 x0_16 x0_17 x0_18 x0_19 x0_20 (motive := fun x0_1 x0_2 y => spec_l4Ack.l0_M x0_0 x0_3 x0_4 x0_5 x0_6 x0_7 x0_8 x0_9 x0_10 x0_11 x0_12 x0_13 x0_14 x0_15 x0_16 x0_17 x0_18 x0_19 x0_20 x0_1 x0_2 y) ?_ x0_1 x0_2 y h
 clear h
 unfold spec_l4Ack.l0_M
 intro rec ih x0_1 x0_2 y h K hx0
 refine loop_unroll (ga_k fun G0 G0n G0r G0x => ?_)
 unfold C152_l0
 refine seq_k fun J6 hJ6 => ?_
 refine sr_k fun J7 hJ7 => ?_
 simp +decide only [Nat.reduceAdd, Nat.reduceMul, Int.reduceToNat, ak]
 refine hJ7 _ ?_
 refine cond_k (b := decide (x0_2 ≤ (x0_9.length : Int))) rfl (fun c9 => ?_) (fun c9 => ?_)
 ·replace c9 := of_decide_eq_true c9; rw [if_pos c9] at h
  refine hJ6 _ ?_
  obtain ⟨j10, h11, hn⟩ := of_bind h
  refine seq_j (fun st => st = ⟨[(0, .c (.ptr (.arg 0) [] 0)), (1, .c (.sc (.int .u32 x0_0))), (4, .c (.ptr (.tmp 4 0) [] 0)), (5, .c (.sc (.int .i64 j10))), (6, .c (.sc (.int .i64 x0_2)))], [(.arg 0, ⟨.box, 0, [.sc (.int .u32 x0_3), .sc (.int .i64 x0_4), .sc (.int .i64 x0_5), .sc (.int .i64 x0_6), .sc (.int .i64 x0_7), .sc (.int .i64 x0_8), .own 1 x0_9.length (encL c_i64 x0_9), .sc (.int .i64 x0_10), .sc (.int .i64 x0_11), .sc (.int .i64 x0_12), .sc (.int .i64 x0_13), .sc (.int .i64 x0_14), .sc (.bool x0_15)]⟩), (.tmp 4 0, ⟨.box, 0, [.sc (.int .i64 x0_16), .own 3 x0_17.length (encL c68 x0_17), .own 1 x0_18.length (encL c_i64 x0_18), .sc (.int .i64 x0_19), .sc (.int .i64 x0_20)]⟩)], [], []⟩) (fun J12 hJ12 => ?_) ?_
  ·replace h := h11; clear hn
   refine ga_k fun G13 G13n G13r G13x => ?_
   refine block_k fun B14 B14n B14x B14r B14j => ?_
   refine sr_k fun J15 hJ15 => ?_
   simp +decide only [Nat.reduceAdd, Nat.reduceMul, Int.reduceToNat, ak]
   refine hJ15 _ ?_
   refine cond_k (b := decide (IntKind.u32.wrap (x0_3 + (IntKind.u32.wrap x0_2)) = x0_0)) rfl (fun c16 => ?_) (fun c16 => ?_)
   ·replace c16 := of_decide_eq_true c16; rw [if_pos c16] at h
    refine reg_k ?_
    simp +decide only [Nat.reduceAdd, Nat.reduceMul, Int.reduceToNat, ak]
    refine B14n _ ?_
    obtain rfl := Option.some.inj h
    refine G13n _ _ (wk [0, 1, 4, 5, 6] [pI (.arg 0) .box, pI (.tmp 4 0) .box]) (hJ12 _ rfl)
   ·replace c16 := of_decide_eq_false c16; rw [if_neg c16] at h
    refine B14n _ ?_
    obtain rfl := Option.some.inj h
    refine G13n _ _ (wk [0, 1, 4, 5, 6] [pI (.arg 0) .box, pI (.tmp 4 0) .box]) (hJ12 _ rfl)
  ·replace h := hn; clear hn h11
   rintro _ rfl
   refine reg_k ?_
   simp +decide only [Nat.reduceAdd, Nat.reduceMul, Int.reduceToNat, ak]
   refine G0n _ _ (wk [0, 1, 4, 5, 6] [pI (.arg 0) .box, pI (.tmp 4 0) .box]) (ih _ _ _ h K hx0)
 ·replace c9 := of_decide_eq_false c9; rw [if_neg c9] at h
  obtain rfl := Option.some.inj h
  refine gh_k (wk [0, 4, 5] [pI (.arg 0) .box, pI (.tmp 4 0) .box]) ?_
  refine G0x _ _ ?_
  exact hx0
def spec_l4Ack.l1_M (x1_0 : Int) (x1_2 : Int) (x1_3 : Int) (x1_4 : Int) (x1_5 : Int) (x1_6 : Int) (x1_7 : Int) (x1_8 : (List Int)) (x1_9 : Int) (x1_10 : Int) (x1_11 : Int) (x1_12 : Int) (x1_13 : Int) (x1_14 : Bool) (x1_15 : Int) (x1_16 : (List S68)) (x1_17 : (List Int)) (x1_18 : Int) (x1_19 : Int) (x1_20 : Int) (x1_21 : (List S68)) (x1_23 : Int) (x1_24 : Int) (x1_1 : Int) (x1_22 : (List Int)) (y : (List Int)) : Prop := ∀ (K : AE → St → Prop), (K (.exit 2) ⟨[(0, .c (.ptr (.arg 0) [] 0)), (4, .c (.ptr (.tmp 4 0) [] 0)), (5, .c (.sc (.int .i64 x1_0))), (7, .c (.ptr (.tmp 7 0) [] 0))], [(.arg 0, ⟨.box, 0, [.sc (.int .u32 x1_2), .sc (.int .i64 x1_3), .sc (.int .i64 x1_4), .sc (.int .i64 x1_5), .sc (.int .i64 x1_6), .sc (.int .i64 x1_7), .own 1 x1_8.length (encL c_i64 x1_8), .sc (.int .i64 x1_9), .sc (.int .i64 x1_10), .sc (.int .i64 x1_11), .sc (.int .i64 x1_12), .sc (.int .i64 x1_13), .sc (.bool x1_14)]⟩), (.tmp 4 0, ⟨.box, 0, [.sc (.int .i64 x1_15), .own 3 x1_16.length (encL c68 x1_16), .own 1 x1_17.length (encL c_i64 x1_17), .sc (.int .i64 x1_18), .sc (.int .i64 x1_19)]⟩), (.tmp 7 0, ⟨.box, 0, [.sc (.int .i64 x1_20), .own 3 x1_21.length (encL c68 x1_21), .own 1 y.length (encL c_i64 y), .sc (.int .i64 x1_23), .sc (.int .i64 x1_24)]⟩)], [], []⟩) → loopS Try.prog 89 (.ga C152_l1) K ⟨[(0, .c (.ptr (.arg 0) [] 0)), (4, .c (.ptr (.tmp 4 0) [] 0)), (5, .c (.sc (.int .i64 x1_0))), (7, .c (.ptr (.tmp 7 0) [] 0)), (8, .c (.sc (.int .i64 x1_1)))], [(.arg 0, ⟨.box, 0, [.sc (.int .u32 x1_2), .sc (.int .i64 x1_3), .sc (.int .i64 x1_4), .sc (.int .i64 x1_5), .sc (.int .i64 x1_6), .sc (.int .i64 x1_7), .own 1 x1_8.length (encL c_i64 x1_8), .sc (.int .i64 x1_9), .sc (.int .i64 x1_10), .sc (.int .i64 x1_11), .sc (.int .i64 x1_12), .sc (.int .i64 x1_13), .sc (.bool x1_14)]⟩), (.tmp 4 0, ⟨.box, 0, [.sc (.int .i64 x1_15), .own 3 x1_16.length (encL c68 x1_16), .own 1 x1_17.length (encL c_i64 x1_17), .sc (.int .i64 x1_18), .sc (.int .i64 x1_19)]⟩), (.tmp 7 0, ⟨.box, 0, [.sc (.int .i64 x1_20), .own 3 x1_21.length (encL c68 x1_21), .own 1 x1_22.length (encL c_i64 x1_22), .sc (.int .i64 x1_23), .sc (.int .i64 x1_24)]⟩)], [], []⟩
theorem spec_l4Ack.l1_walk (x1_0 : Int) (x1_2 : Int) (x1_3 : Int) (x1_4 : Int) (x1_5 : Int) (x1_6 : Int) (x1_7 : Int) (x1_8 : (List Int)) (x1_9 : Int) (x1_10 : Int) (x1_11 : Int) (x1_12 : Int) (x1_13 : Int) (x1_14 : Bool) (x1_15 : Int) (x1_16 : (List S68)) (x1_17 : (List Int)) (x1_18 : Int) (x1_19 : Int) (x1_20 : Int) (x1_21 : (List S68)) (x1_23 : Int) (x1_24 : Int) (x1_1 : Int) (x1_22 : (List Int)) (y : (List Int)) (h : spec_l4Ack.l1 x1_0 x1_2 x1_3 x1_4 x1_5 x1_6 x1_7 x1_8 x1_9 x1_10 x1_11 x1_12 x1_13 x1_14 x1_15 x1_16 x1_17 x1_18 x1_19 x1_20 x1_21 x1_23 x1_24 x1_1 x1_22 = some y) : spec_l4Ack.l1_M x1_0 x1_2 x1_3 x1_4 x1_5 x1_6 x1_7 x1_8 x1_9 x1_10 x1_11 x1_12 x1_13 x1_14 x1_15 x1_16 x1_17 x1_18 x1_19 x1_20 x1_21 x1_23 x1_24 x1_1 x1_22 y := by
 refine spec_l4Ack.l1.partial_correctness x1_0 x1_2 x1_3 x1_4 x1_5 x1_6 x1_7 x1_8 x1_9 x1_10 x1_11 x1_12 x1_13 x1_14 x1_15 x1_16 x1_17 x1_18 x1_19 x1_20 x1_21 x1_23 x1_24 (motive := fun x1_1 x1_22 y => spec_l4Ack.l1_M x1_0 x1_2 x1_3 x1_4 x1_5 x1_6 x1_7 x1_8 x1_9 x1_10 x1_11 x1_12 x1_13 x1_14 x1_15 x1_16 x1_17 x1_18 x1_19 x1_20 x1_21 x1_23 x1_24 x1_1 x1_22 y) ?_ x1_1 x1_22 y h
 clear h
 unfold spec_l4Ack.l1_M
 intro rec ih x1_1 x1_22 y h K hx0
 refine loop_unroll (ga_k fun G1 G1n G1r G1x => ?_)
 unfold C152_l1
 refine seq_k fun J31 hJ31 => ?_
 refine sr_k fun J32 hJ32 => ?_
 simp +decide only [Nat.reduceAdd, Nat.reduceMul, Int.reduceToNat, ak]
 refine hJ32 _ ?_
 refine cond_k (b := decide (x1_1 < x1_0)) rfl (fun c33 => ?_) (fun c33 => ?_)
 ·replace c33 := of_decide_eq_true c33; rw [if_pos c33] at h
  refine hJ31 _ ?_
  refine seq_k fun J34 hJ34 => ?_
  refine block_k fun B35 B35n B35x B35r B35j => ?_
  refine regD_k ?_
  obtain ⟨b36, h⟩ := of_guard h
  have g37 : (encL c_i64 x1_8)[0 + x1_1.toNat * 1]? = some (.sc (.int .i64 (rd 0 x1_8 x1_1))) := (Vw.whole c_i64_w x1_8).get 0 0 b36.1 b36.2 (by decide)
  simp +decide only [Nat.reduceAdd, Nat.reduceMul, Int.reduceToNat, ak, b36, g37]
  obtain ⟨b43, h⟩ := of_guard h
  refine alt_e ?_
  ·have g56 : (List.replicate 1 ([.int .i64 0] : List Value)).flatten = [.int .i64 0] := rfl
   have g57 : (⟨.lst, 1, [.sc (.int .i64 (rd 0 x1_8 x1_1))]⟩ : Root) = ⟨.lst, 1, encL c_i64 ([(rd 0 x1_8 x1_1)] : List Int)⟩ := rfl
   have g58 : ([(rd 0 x1_8 x1_1)] : List Int).length = 1 := rfl
   simp +decide only [Nat.reduceAdd, Nat.reduceMul, Int.reduceToNat, ak, g56, g57, g58]
   refine alt_e ?_
   ·have g66 : (encL c_i64 ([(rd 0 x1_8 x1_1)] : List Int)).take 1 = encL c_i64 ([(rd 0 x1_8 x1_1)] : List Int) := by simpa using (Vw.whole c_i64_w ([(rd 0 x1_8 x1_1)] : List Int)).all
    have g67 : (encL c_i64 ([(rd 0 x1_8 x1_1)] : List Int)).all isSc = true := encL_all (fun _ => rfl) _
    have g68 : appLim x1_22.length 1 8 := ⟨b43, by have := b43; omega⟩
    have g69 : (encL c_i64 x1_22).length = x1_22.length * 1 := by simp [encL_length c_i64_w]
    have g70 : encL c_i64 x1_22 ++ encL c_i64 ([(rd 0 x1_8 x1_1)] : List Int) = encL c_i64 (x1_22 ++ ([(rd 0 x1_8 x1_1)] : List Int)) := (encL_append _ _).symm
    simp +decide only [Nat.reduceAdd, Nat.reduceMul, Int.reduceToNat, ak, g66, g67, g68, g69, g70]
    refine alt_e ?_
    ·have g72 : (encL c_i64 (x1_22 ++ ([(rd 0 x1_8 x1_1)] : List Int))).length = (x1_22.length + 1) * 1 := by simp [encL_length c_i64_w]
     simp +decide only [Nat.reduceAdd, Nat.reduceMul, Int.reduceToNat, ak, g72]
     refine B35n _ ?_
     refine hJ34 _ ?_
     refine reg_k ?_
     simp +decide only [Nat.reduceAdd, Nat.reduceMul, Int.reduceToNat, ak]
     refine G1n _ _ (wj [0, 4, 5, 7, 8] [pI (.arg 0) .box, pI (.tmp 4 0) .box, pI (.tmp 7 0) .box]) (ih _ _ _ h K hx0)
 ·replace c33 := of_decide_eq_false c33; rw [if_neg c33] at h
  obtain rfl := Option.some.inj h
  refine gh_k (wk [0, 4, 5, 7] [pI (.arg 0) .box, pI (.tmp 4 0) .box, pI (.tmp 7 0) .box]) ?_
  refine G1x _ _ ?_
  exact hx0
theorem spec_l4Ack.tri (a0_0 : Int) (a0_1 : Int) (a0_2 : Int) (a0_3 : Int) (a0_4 : Int) (a0_5 : Int) (l0_6 : List Int) (a0_7 : Int) (a0_8 : Int) (a0_9 : Int) (a0_10 : Int) (a0_11 : Int) (a0_12 : Bool) (a1 : Int) (r : Int × (List S68) × (List Int) × Int × Int × Int × Int × Int × Int × Int × Bool) (h : spec_l4Ack.f a0_0 a0_1 a0_2 a0_3 a0_4 a0_5 l0_6 a0_7 a0_8 a0_9 a0_10 a0_11 a0_12 a1 = some r) : Tri Try.prog 152 [.c (.ptr (.arg 0) [] 0), .c (.sc (.int .u32 a1))] [(.arg 0, ⟨.box, 0, [.sc (.int .u32 a0_0), .sc (.int .i64 a0_1), .sc (.int .i64 a0_2), .sc (.int .i64 a0_3), .sc (.int .i64 a0_4), .sc (.int .i64 a0_5), .own 1 l0_6.length (encL c_i64 l0_6), .sc (.int .i64 a0_7), .sc (.int .i64 a0_8), .sc (.int .i64 a0_9), .sc (.int .i64 a0_10), .sc (.int .i64 a0_11), .sc (.bool a0_12)]⟩)] (fun o => o = ⟨.g [.sc (.int .i64 r.1), .ref (.res 0) [] 0 r.2.1.length, .ref (.res 1) [] 0 r.2.2.1.length, .sc (.int .i64 r.2.2.2.1), .sc (.int .i64 r.2.2.2.2.1)], [(.arg 0, ⟨.box, 0, [.sc (.int .u32 a0_0), .sc (.int .i64 a0_1), .sc (.int .i64 a0_2), .sc (.int .i64 a0_3), .sc (.int .i64 a0_4), .sc (.int .i64 a0_5), .own 1 l0_6.length (encL c_i64 l0_6), .sc (.int .i64 r.2.2.2.2.2.1), .sc (.int .i64 r.2.2.2.2.2.2.1), .sc (.int .i64 r.2.2.2.2.2.2.2.1), .sc (.int .i64 r.2.2.2.2.2.2.2.2.1), .sc (.int .i64 r.2.2.2.2.2.2.2.2.2.1), .sc (.bool r.2.2.2.2.2.2.2.2.2.2)]⟩), (.res 0, ⟨.lst, 3, encL c68 r.2.1⟩), (.res 1, ⟨.lst, 1, encL c_i64 r.2.2.1⟩)], [], []⟩) := by
 refine tri_of_body (ac := C152) (xs := r152) Try.func152 (show Try.f152.body = some (Try.f152.body.getD .skip) from rfl) k152 q152 (Nat.le_of_ble_eq_true rfl) ?_
 refine body_of fun K hKn hKr => ?_
 unfold spec_l4Ack.f at h
 unfold C152
 simp only [initT, Nat.reduceAdd]
 refine sr_k fun J1 hJ1 => ?_
 simp +decide only [Nat.reduceAdd, Nat.reduceMul, Int.reduceToNat, ak]
 refine gho_k (Weak.own (.tmp 4 0) (cs' := [.sc (.int .i64 0), .own 3 (([] : List S68).length) (encL c68 ([] : List S68)), .own 1 (([] : List Int).length) (encL c_i64 ([] : List Int)), .sc (.int .i64 0), .sc (.int .i64 0)]) rfl ⟨.inl rfl, .inr ⟨rfl, _, rfl⟩, .inr ⟨rfl, _, rfl⟩, .inl rfl, .inl rfl, trivial⟩) ?_
 simp +decide only [Nat.reduceAdd, Nat.reduceMul, Int.reduceToNat, ak]
 refine hJ1 _ ?_
 refine sr_k fun J2 hJ2 => ?_
 simp +decide only [Nat.reduceAdd, Nat.reduceMul, Int.reduceToNat, ak]
 refine hJ2 _ ?_
 refine seq_k fun J3 hJ3 => ?_
 refine sr_k fun J4 hJ4 => ?_
 simp +decide only [Nat.reduceAdd, Nat.reduceMul, Int.reduceToNat, ak]
 refine hJ4 _ ?_
 refine block_k fun B5 B5n B5x B5r B5j => ?_
 obtain ⟨y17, h18, h⟩ := of_bind h
 refine gh_k (wk [0, 1, 4, 5, 6] [pI (.arg 0) .box, pI (.tmp 4 0) .box]) ?_
 rw [e_loop]
 refine spec_l4Ack.l0_walk a1 a0_0 a0_1 a0_2 a0_3 a0_4 a0_5 l0_6 a0_7 a0_8 a0_9 a0_10 a0_11 a0_12 0 ([] : List S68) ([] : List Int) 0 0 (-1) a0_7 _ h18 _ ?_
 refine B5x _ ?_
 refine hJ3 _ ?_
 refine seq_k fun J19 hJ19 => ?_
 refine sr_k fun J20 hJ20 => ?_
 simp +decide only [Nat.reduceAdd, Nat.reduceMul, Int.reduceToNat, ak]
 refine hJ20 _ ?_
 refine cond_k (b := decide (y17 < 0)) rfl (fun c21 => ?_) (fun c21 => ?_)
 ·replace c21 := of_decide_eq_true c21; rw [if_pos c21] at h
  refine sr_k fun J22 hJ22 => ?_
  simp +decide only [Nat.reduceAdd, Nat.reduceMul, Int.reduceToNat, ak]
  refine gho_k ((Weak.nmg' 36 1 (.tmp 36 21) 3 (encL c68 ([] : List S68)) rfl rfl rfl rfl).trans (Weak.nmg' 36 2 (.tmp 36 22) 1 (encL c_i64 ([] : List Int)) rfl rfl rfl rfl)) ?_
  have g23 : (encL c68 ([] : List S68)).length = 0 * 3 := by simp [encL_length c68_w]
  have g24 : (encL c_i64 ([] : List Int)).length = 0 * 1 := by simp [encL_length c_i64_w]
  simp +decide only [Nat.reduceAdd, Nat.reduceMul, Int.reduceToNat, ak, g23, g24]
  refine hJ22 _ ?_
  obtain rfl := Option.some.inj h
  refine hKr _ ⟨_, rfl, [⟨(.tmp 4 0), [1], none, .lst⟩, ⟨(.tmp 4 0), [2], none, .lst⟩], _, rfl, rfl, ?_⟩
  exact cl
 ·replace c21 := of_decide_eq_false c21; rw [if_neg c21] at h
  refine hJ19 _ ?_
  refine sr_k fun J25 hJ25 => ?_
  simp +decide only [Nat.reduceAdd, Nat.reduceMul, Int.reduceToNat, ak]
  refine gho_k ((Weak.nmg' 37 1 (.tmp 37 21) 3 (encL c68 ([] : List S68)) rfl rfl rfl rfl).trans (Weak.nmg' 37 2 (.tmp 37 22) 1 (encL c_i64 ([] : List Int)) rfl rfl rfl rfl)) ?_
  simp +decide only [Nat.reduceAdd, Nat.reduceMul, Int.reduceToNat, ak]
  refine gho_k (Weak.own (.tmp 7 0) (cs' := [.sc (.int .i64 0), .own 3 (([] : List S68).length) (encL c68 ([] : List S68)), .own 1 (([] : List Int).length) (encL c_i64 ([] : List Int)), .sc (.int .i64 0), .sc (.int .i64 0)]) rfl ⟨.inl rfl, .inr ⟨rfl, _, rfl⟩, .inr ⟨rfl, _, rfl⟩, .inl rfl, .inl rfl, trivial⟩) ?_
  have g26 : (encL c68 ([] : List S68)).length = 0 * 3 := by simp [encL_length c68_w]
  have g27 : (encL c_i64 ([] : List Int)).length = 0 * 1 := by simp [encL_length c_i64_w]
  simp +decide only [Nat.reduceAdd, Nat.reduceMul, Int.reduceToNat, ak, g26, g27]
  refine hJ25 _ ?_
  refine seq_k fun J28 hJ28 => ?_
  refine sr_k fun J29 hJ29 => ?_
  simp +decide only [Nat.reduceAdd, Nat.reduceMul, Int.reduceToNat, ak]
  refine hJ29 _ ?_
  refine block_k fun B30 B30n B30x B30r B30j => ?_
  obtain ⟨y73, h74, h⟩ := of_bind h
  refine gh_k (st' := ⟨[(0, .c (.ptr (.arg 0) [] 0)), (4, .c (.ptr (.tmp 4 0) [] 0)), (5, .c (.sc (.int .i64 y17))), (7, .c (.ptr (.tmp 7 0) [] 0)), (8, .c (.sc (.int .i64 a0_7)))], [(.arg 0, ⟨.box, 0, [.sc (.int .u32 a0_0), .sc (.int .i64 a0_1), .sc (.int .i64 a0_2), .sc (.int .i64 a0_3), .sc (.int .i64 a0_4), .sc (.int .i64 a0_5), .own 1 l0_6.length (encL c_i64 l0_6), .sc (.int .i64 a0_7), .sc (.int .i64 a0_8), .sc (.int .i64 a0_9), .sc (.int .i64 a0_10), .sc (.int .i64 a0_11), .sc (.bool a0_12)]⟩), (.tmp 4 0, ⟨.box, 0, [.sc (.int .i64 0), .own 3 (([] : List S68).length) (encL c68 ([] : List S68)), .own 1 (([] : List Int).length) (encL c_i64 ([] : List Int)), .sc (.int .i64 0), .sc (.int .i64 0)]⟩), (.tmp 7 0, ⟨.box, 0, [.sc (.int .i64 0), .own 3 (([] : List S68).length) (encL c68 ([] : List S68)), .own 1 (([] : List Int).length) (encL c_i64 ([] : List Int)), .sc (.int .i64 0), .sc (.int .i64 0)]⟩)], [], []⟩) (wk [0, 4, 5, 7, 8] [pI (.arg 0) .box, pI (.tmp 4 0) .box, pI (.tmp 7 0) .box] (h := by first | rfl | (simp +decide only [ak, akF]; done) | (simp +decide [ak, akF] <;> omega))) ?_
  rw [e_loop]
  refine spec_l4Ack.l1_walk y17 a0_0 a0_1 a0_2 a0_3 a0_4 a0_5 l0_6 a0_7 a0_8 a0_9 a0_10 a0_11 a0_12 0 ([] : List S68) ([] : List Int) 0 0 0 ([] : List S68) 0 0 a0_7 ([] : List Int) _ h74 _ ?_
  refine B30x _ ?_
  refine hJ28 _ ?_
  refine sr_k fun J75 hJ75 => ?_
  simp +decide only [Nat.reduceAdd, Nat.reduceMul, Int.reduceToNat, ak]
  refine hJ75 _ ?_
  refine sr_k fun J76 hJ76 => ?_
  simp +decide only [Nat.reduceAdd, Nat.reduceMul, Int.reduceToNat, ak]
  refine hJ76 _ ?_
  obtain ⟨j77, h78, hn⟩ := of_bind h
  refine seq_j (fun st => st = ⟨[(4, .c (.ptr (.tmp 4 0) [] 0)), (7, .c (.ptr (.tmp 7 0) [] 0))], [(.arg 0, ⟨.box, 0, [.sc (.int .u32 a0_0), .sc (.int .i64 a0_1), .sc (.int .i64 a0_2), .sc (.int .i64 a0_3), .sc (.int .i64 a0_4), .sc (.int .i64 a0_5), .own 1 l0_6.length (encL c_i64 l0_6), .sc (.int .i64 y17), .sc (.int .i64 j77.1), .sc (.int .i64 j77.2.1), .sc (.int .i64 j77.2.2.1), .sc (.int .i64 j77.2.2.2.1), .sc (.bool j77.2.2.2.2.1)]⟩), (.tmp 4 0, ⟨.box, 0, [.sc (.int .i64 0), .own 3 (([] : List S68).length) (encL c68 ([] : List S68)), .own 1 (([] : List Int).length) (encL c_i64 ([] : List Int)), .sc (.int .i64 0), .sc (.int .i64 0)]⟩), (.tmp 7 0, ⟨.box, 0, [.sc (.int .i64 0), .own 3 j77.2.2.2.2.2.1.length (encL c68 j77.2.2.2.2.2.1), .own 1 y73.length (encL c_i64 y73), .sc (.int .i64 0), .sc (.int .i64 j77.2.2.2.2.2.2)]⟩)], [], []⟩) (fun J79 hJ79 => ?_) ?_
  ·replace h := h78; clear hn
   refine ga_k fun G80 G80n G80r G80x => ?_
   refine sr_k fun J81 hJ81 => ?_
   simp +decide only [Nat.reduceAdd, Nat.reduceMul, Int.reduceToNat, ak]
   refine hJ81 _ ?_
   refine cond_k (b := a0_12) rfl (fun c82 => ?_) (fun c82 => ?_)
   ·rw [if_pos c82] at h
    refine sr_k fun J83 hJ83 => ?_
    simp +decide only [Nat.reduceAdd, Nat.reduceMul, Int.reduceToNat, ak]
    refine hJ83 _ ?_
    refine sr_k fun J84 hJ84 => ?_
    simp +decide only [Nat.reduceAdd, Nat.reduceMul, Int.reduceToNat, ak]
    refine hJ84 _ ?_
    refine sr_k fun J85 hJ85 => ?_
    simp +decide only [Nat.reduceAdd, Nat.reduceMul, Int.reduceToNat, ak]
    refine hJ85 _ ?_
    refine sr_k fun J86 hJ86 => ?_
    simp +decide only [Nat.reduceAdd, Nat.reduceMul, Int.reduceToNat, ak]
    obtain ⟨t87, h88, h⟩ := of_bind h
    refine cm [pI (.arg 0) .box] (spec_l4Again.tri a0_0 a0_1 a0_2 a0_3 a0_4 a0_5 l0_6 y17 a0_8 a0_9 a0_10 0 false _ h88) (fun hl88 => ?_)
    refine ct (.c (.ref (.tmp 81 0) [] 0 t87.length)) (mW [.sc (.int .u32 a0_0), .sc (.int .i64 a0_1), .sc (.int .i64 a0_2), .sc (.int .i64 a0_3), .sc (.int .i64 a0_4), .sc (.int .i64 a0_5), .own 1 l0_6.length (encL c_i64 l0_6), .sc (.int .i64 y17), .sc (.int .i64 a0_8), .sc (.int .i64 a0_9), .sc (.int .i64 a0_10), .sc (.int .i64 0), .sc (.bool false)] (mN ..)) ?_ (s4 := [(.arg 0, ⟨.box, 0, [.sc (.int .u32 a0_0), .sc (.int .i64 a0_1), .sc (.int .i64 a0_2), .sc (.int .i64 a0_3), .sc (.int .i64 a0_4), .sc (.int .i64 a0_5), .own 1 l0_6.length (encL c_i64 l0_6), .sc (.int .i64 y17), .sc (.int .i64 a0_8), .sc (.int .i64 a0_9), .sc (.int .i64 a0_10), .sc (.int .i64 0), .sc (.bool false)]⟩), (.tmp 4 0, ⟨.box, 0, [.sc (.int .i64 0), .own 3 (([] : List S68).length) (encL c68 ([] : List S68)), .own 1 (([] : List Int).length) (encL c_i64 ([] : List Int)), .sc (.int .i64 0), .sc (.int .i64 0)]⟩), (.tmp 7 0, ⟨.box, 0, [.sc (.int .i64 0), .own 3 (([] : List S68).length) (encL c68 ([] : List S68)), .own 1 y73.length (encL c_i64 y73), .sc (.int .i64 0), .sc (.int .i64 1)]⟩), (.tmp 81 0, ⟨.lst, 3, encL c68 t87⟩)])
    have g90 : (encL c68 t87).length = t87.length * 3 := by simp [encL_length c68_w]
    simp +decide only [Nat.reduceAdd, Nat.reduceMul, Int.reduceToNat, ak, g90]
    refine hJ86 _ ?_
    refine reg_k ?_
    simp +decide only [Nat.reduceAdd, Nat.reduceMul, Int.reduceToNat, ak]
    obtain ⟨t91, h92, h⟩ := of_bind h
    refine cm [pI (.arg 0) .box] (spec_l4Clock.tri a0_0 a0_1 a0_2 a0_3 a0_4 a0_5 l0_6 y17 a0_8 a0_9 a0_10 0 false _ h92) (fun hl92 => ?_)
    refine ct (.tup []) (mW [.sc (.int .u32 a0_0), .sc (.int .i64 a0_1), .sc (.int .i64 a0_2), .sc (.int .i64 a0_3), .sc (.int .i64 a0_4), .sc (.int .i64 a0_5), .own 1 l0_6.length (encL c_i64 l0_6), .sc (.int .i64 y17), .sc (.int .i64 t91.1), .sc (.int .i64 t91.2.1), .sc (.int .i64 t91.2.2), .sc (.int .i64 0), .sc (.bool false)] (mN ..)) ?_ (s4 := [(.arg 0, ⟨.box, 0, [.sc (.int .u32 a0_0), .sc (.int .i64 a0_1), .sc (.int .i64 a0_2), .sc (.int .i64 a0_3), .sc (.int .i64 a0_4), .sc (.int .i64 a0_5), .own 1 l0_6.length (encL c_i64 l0_6), .sc (.int .i64 y17), .sc (.int .i64 t91.1), .sc (.int .i64 t91.2.1), .sc (.int .i64 t91.2.2), .sc (.int .i64 0), .sc (.bool false)]⟩), (.tmp 4 0, ⟨.box, 0, [.sc (.int .i64 0), .own 3 (([] : List S68).length) (encL c68 ([] : List S68)), .own 1 (([] : List Int).length) (encL c_i64 ([] : List Int)), .sc (.int .i64 0), .sc (.int .i64 0)]⟩), (.tmp 7 0, ⟨.box, 0, [.sc (.int .i64 0), .own 3 t87.length (encL c68 t87), .own 1 y73.length (encL c_i64 y73), .sc (.int .i64 0), .sc (.int .i64 1)]⟩)])
    simp +decide only [Nat.reduceAdd, Nat.reduceMul, Int.reduceToNat, ak]
    obtain rfl := Option.some.inj h
    refine G80n _ _ (wk [4, 7] [pI (.arg 0) .box, pI (.tmp 4 0) .box, pI (.tmp 7 0) .box]) (hJ79 _ rfl)
   ·rw [if_neg (Bool.eq_false_iff.1 c82)] at h
    refine sr_k fun J94 hJ94 => ?_
    simp +decide only [Nat.reduceAdd, Nat.reduceMul, Int.reduceToNat, ak]
    refine hJ94 _ ?_
    refine cond_k (b := decide (y17 > a0_7)) rfl (fun c95 => ?_) (fun c95 => ?_)
    ·replace c95 := of_decide_eq_true c95; rw [if_pos c95] at h
     refine reg_k ?_
     simp +decide only [Nat.reduceAdd, Nat.reduceMul, Int.reduceToNat, ak]
     obtain ⟨t96, h97, h⟩ := of_bind h
     refine cm [pI (.arg 0) .box] (spec_l4Clock.tri a0_0 a0_1 a0_2 a0_3 a0_4 a0_5 l0_6 y17 a0_8 a0_9 a0_10 a0_11 a0_12 _ h97) (fun hl97 => ?_)
     refine ct (.tup []) (mW [.sc (.int .u32 a0_0), .sc (.int .i64 a0_1), .sc (.int .i64 a0_2), .sc (.int .i64 a0_3), .sc (.int .i64 a0_4), .sc (.int .i64 a0_5), .own 1 l0_6.length (encL c_i64 l0_6), .sc (.int .i64 y17), .sc (.int .i64 t96.1), .sc (.int .i64 t96.2.1), .sc (.int .i64 t96.2.2), .sc (.int .i64 a0_11), .sc (.bool a0_12)] (mN ..)) ?_ (s4 := [(.arg 0, ⟨.box, 0, [.sc (.int .u32 a0_0), .sc (.int .i64 a0_1), .sc (.int .i64 a0_2), .sc (.int .i64 a0_3), .sc (.int .i64 a0_4), .sc (.int .i64 a0_5), .own 1 l0_6.length (encL c_i64 l0_6), .sc (.int .i64 y17), .sc (.int .i64 t96.1), .sc (.int .i64 t96.2.1), .sc (.int .i64 t96.2.2), .sc (.int .i64 a0_11), .sc (.bool a0_12)]⟩), (.tmp 4 0, ⟨.box, 0, [.sc (.int .i64 0), .own 3 (([] : List S68).length) (encL c68 ([] : List S68)), .own 1 (([] : List Int).length) (encL c_i64 ([] : List Int)), .sc (.int .i64 0), .sc (.int .i64 0)]⟩), (.tmp 7 0, ⟨.box, 0, [.sc (.int .i64 0), .own 3 (([] : List S68).length) (encL c68 ([] : List S68)), .own 1 y73.length (encL c_i64 y73), .sc (.int .i64 0), .sc (.int .i64 0)]⟩)])
     simp +decide only [Nat.reduceAdd, Nat.reduceMul, Int.reduceToNat, ak]
     obtain rfl := Option.some.inj h
     refine G80n _ _ (wk [4, 7] [pI (.arg 0) .box, pI (.tmp 4 0) .box, pI (.tmp 7 0) .box]) (hJ79 _ rfl)
    ·replace c95 := of_decide_eq_false c95; rw [if_neg c95] at h
     obtain rfl := Option.some.inj h
     refine G80n _ _ (wk [4, 7] [pI (.arg 0) .box, pI (.tmp 4 0) .box, pI (.tmp 7 0) .box]) (hJ79 _ rfl)
  ·replace h := hn; clear hn h78
   rintro _ rfl
   refine sr_k fun J99 hJ99 => ?_
   simp +decide only [Nat.reduceAdd, Nat.reduceMul, Int.reduceToNat, ak]
   refine hJ99 _ ?_
   obtain rfl := Option.some.inj h
   refine hKr _ ⟨_, rfl, [⟨(.tmp 7 0), [1], none, .lst⟩, ⟨(.tmp 7 0), [2], none, .lst⟩], _, rfl, rfl, ?_⟩
   exact cl
/-! ### spec.l4Tick: function 153 -/
def C153 : AC := .sr [.o (.alloc 2 [.int .i64 0, .slice none 0 0, .slice none 0 0, .int .i64 0, .int .i64 0]), .gh, .keep [0, 2]] (.sr [.o (.build 4 [.int .i64 0, .slice none 0 0, .slice none 0 0, .int .i64 0, .int .i64 0] []), .gh, .o (.alloc 3 [.int .i64 0, .slice none 0 0, .slice none 0 0, .int .i64 0, .int .i64 0]), .gh, .st 5 3 4, .keep [0, 2, 3]] (.seq (.sr [.m 5 0, .o (.nilc 6 (.t 5)), .fa 7 12 6, .ld 8 1 7, .keep [0, 2, 3, 8]] (.cond (.t 8) (.sr [.m 9 0, .m 10 0, .o (.nilc 11 (.t 10)), .fa 12 11 11, .ld 13 1 12, .o (.bin 14 .sub (.t 13) (.k 1)), .o (.nilc 15 (.t 9)), .fa 16 11 15, .st 1 16 14, .keep [0, 2, 3]] (.seq (.ga (.sr [.m 17 0, .o (.nilc 18 (.t 17)), .fa 19 11 18, .ld 20 1 19, .o (.bin 21 .eql (.t 20) (.k 0)), .keep [0, 2, 3, 21]] (.cond (.t 21) (.seq (.regD (.f (.m 22 0) (.f (.o (.nilc 23 (.t 22))) (.f (.fa 24 0 23) (.f (.fa 25 0 24) (.f (.ld 26 1 25) (.f (.m 27 0) (.f (.o (.nilc 28 (.t 27))) (.f (.fa 29 7 28) (.f (.ld 30 1 29) (.f (.o (.conv 31 .u32 (.t 30))) (.f (.o (.bin 32 .add (.t 26) (.t 31))) (.f (.o (.build 33 [.int .i64 0, .int .u32 0, .int .i64 0] [(0, 1, .const (.int .i64 3)), (1, 1, .tmp 32)])) (.alt (.o (.bslice 34 3 [.int .i64 0, .int .u32 0, .int .i64 0] 1 [(0, .tmp 33)])) none (.f (.fa 35 1 3) (.alt (.st 1 35 34) none (.done) (.stop))) (.stop)))))))))))))) [0, 2, 3]) (.reg [.m 36 0, .m 37 0, .o (.nilc 38 (.t 37)), .fa 39 0 38, .fa 40 5 39, .ld 41 1 40, .o (.nilc 42 (.t 36)), .fa 43 11 42, .st 1 43 41, .keep [2, 3]])) (.skip)))) (.sr [.o (.load 44 true 5 (.t 3)), .st 5 2 44, .keep [2]] (.ret)))) (.skip))) (.seq (.sr [.m 45 0, .o (.nilc 46 (.t 45)), .fa 47 8 46, .ld 48 1 47, .o (.bin 49 .eql (.t 48) (.k 0)), .keep [0, 2, 3, 49]] (.cond (.t 49) (.sr [.o (.load 50 true 5 (.t 3)), .st 5 2 50, .keep [2]] (.ret)) (.skip))) (.sr [.m 51 0, .m 52 0, .o (.nilc 53 (.t 52)), .fa 54 8 53, .ld 55 1 54, .o (.bin 56 .sub (.t 55) (.k 1)), .o (.nilc 57 (.t 51)), .fa 58 8 57, .st 1 58 56, .keep [0, 2, 3]] (.seq (.sr [.m 59 0, .o (.nilc 60 (.t 59)), .fa 61 8 60, .ld 62 1 61, .o (.bin 63 .gtr (.t 62) (.k 0)), .keep [0, 2, 3, 63]] (.cond (.t 63) (.sr [.o (.load 64 true 5 (.t 3)), .st 5 2 64, .keep [2]] (.ret)) (.skip))) (.sr [.m 65 0, .m 66 0, .o (.nilc 67 (.t 66)), .fa 68 10 67, .ld 69 1 68, .o (.bin 70 .add (.t 69) (.k 1)), .o (.nilc 71 (.t 65)), .fa 72 10 71, .st 1 72 70, .keep [0, 2, 3]] (.seq (.seq (.regD (.f (.m 73 0) (.f (.o (.nilc 74 (.t 73))) (.f (.fa 75 10 74) (.f (.ld 76 1 75) (.f (.m 77 0) (.f (.o (.nilc 78 (.t 77))) (.f (.fa 79 0 78) (.f (.fa 80 4 79) (.f (.ld 81 1 80) (.f (.o (.bin 82 .eql (.t 76) (.t 81))) (.done))))))))))) [0, 2, 3, 82]) (.cond (.t 82) (.sr [.m 83 0, .o (.nilc 84 (.t 83)), .fa 85 12 84, .o (.store 1 (.t 85) (.const (.bool true))), .keep [0, 2, 3]] (.sr [.m 86 0, .m 87 0, .o (.nilc 88 (.t 87)), .fa 89 0 88, .fa 90 5 89, .ld 91 1 90, .o (.nilc 92 (.t 86)), .fa 93 11 92, .st 1 93 91, .keep [2, 3]] (.sr [.fa 94 3 3, .o (.store 1 (.t 94) (.k 1)), .keep [2, 3]] (.sr [.o (.load 95 true 5 (.t 3)), .st 5 2 95, .keep [2]] (.ret))))) (.skip))) (.sr [.m 96 0, .m 97 0, .o (.nilc 98 (.t 97)), .fa 99 9 98, .ld 100 1 99, .o (.bin 101 .mul (.k 2) (.t 100)), .o (.nilc 102 (.t 96)), .fa 103 9 102, .st 1 103 101, .keep [0, 2, 3]] (.seq (.ga (.seq (.regD (.f (.m 104 0) (.f (.o (.nilc 105 (.t 104))) (.f (.fa 106 9 105) (.f (.ld 107 1 106) (.f (.m 108 0) (.f (.o (.nilc 109 (.t 108))) (.f (.fa 110 0 109) (.f (.fa 111 3 110) (.f (.ld 112 1 111) (.f (.o (.bin 113 .gtr (.t 107) (.t 112))) (.done))))))))))) [0, 2, 3, 113]) (.cond (.t 113) (.reg [.m 114 0, .m 115 0, .o (.nilc 116 (.t 115)), .fa 117 0 116, .fa 118 3 117, .ld 119 1 118, .o (.nilc 120 (.t 114)), .fa 121 9 120, .st 1 121 119, .keep [0, 2, 3]]) (.skip)))) (.sr [.m 122 0, .m 123 0, .o (.nilc 124 (.t 123)), .fa 125 9 124, .ld 126 1 125, .o (.nilc 127 (.t 122)), .fa 128 8 127, .st 1 128 126, .keep [0, 2, 3]] (.sr [.m 129 0, .call none (some 130) 162 [.tmp 129], .fa 131 1 3, .st 1 131 130, .keep [2, 3]] (.sr [.o (.load 132 true 5 (.t 3)), .st 5 2 132, .keep [2]] (.ret)))))))))))))
def r153 : List RV := [.cell 2 true 5]
theorem k153 : compC Try.prog 133 C153 (Try.f153.body.getD .skip) = some C153.erase := by kernel_rfl
theorem q153 : rvsOf Try.prog Try.f153.results.toList = some r153 := by kernel_rfl
def spec_l4Tick.f (a0_0 : Int) (a0_1 : Int) (a0_2 : Int) (a0_3 : Int) (a0_4 : Int) (a0_5 : Int) (l0_6 : List Int) (a0_7 : Int) (a0_8 : Int) (a0_9 : Int) (a0_10 : Int) (a0_11 : Int) (a0_12 : Bool) : Option (Int × (List S68) × (List Int) × Int × Int × Int × Int × Int × Int × Bool) := (if a0_12 = true then ((if IntKind.i64.wrap (a0_11 - 1) = 0 then (some (a0_5, ([(⟨3, IntKind.u32.wrap (a0_0 + (IntKind.u32.wrap a0_7)), 0⟩ : S68)] : List S68))) else (some (IntKind.i64.wrap (a0_11 - 1), ([] : List S68)))) >>= fun (j11 : Int × (List S68)) => (some (0, j11.2, ([] : List Int), 0, 0, a0_8, a0_9, a0_10, j11.1, a0_12))) else (if a0_8 = 0 then (some (0, ([] : List S68), ([] : List Int), 0, 0, a0_8, a0_9, a0_10, a0_11, a0_12)) else (if IntKind.i64.wrap (a0_8 - 1) > 0 then (some (0, ([] : List S68), ([] : List Int), 0, 0, IntKind.i64.wrap (a0_8 - 1), a0_9, a0_10, a0_11, a0_12)) else (if IntKind.i64.wrap (a0_10 + 1) = a0_4 then (some (0, ([] : List S68), ([] : List Int), 1, 0, IntKind.i64.wrap (a0_8 - 1), a0_9, IntKind.i64.wrap (a0_10 + 1), a0_5, true)) else ((if IntKind.i64.wrap (2 * a0_9) > a0_3 then (some a0_3) else (some (IntKind.i64.wrap (2 * a0_9)))) >>= fun (j49 : Int) => (spec_l4Again.f a0_0 a0_1 a0_2 a0_3 a0_4 a0_5 l0_6 a0_7 j49 j49 (IntKind.i64.wrap (a0_10 + 1)) a0_11 a0_12 >>= fun t59 => (some (0, t59, ([] : List Int), 0, 0, j49, j49, IntKind.i64.wrap (a0_10 + 1), a0_11, a0_12))))))))
theorem spec_l4Tick.tri (a0_0 : Int) (a0_1 : Int) (a0_2 : Int) (a0_3 : Int) (a0_4 : Int) (a0_5 : Int) (l0_6 : List Int) (a0_7 : Int) (a0_8 : Int) (a0_9 : Int) (a0_10 : Int) (a0_11 : Int) (a0_12 : Bool) (r : Int × (List S68) × (List Int) × Int × Int × Int × Int × Int × Int × Bool) (h : spec_l4Tick.f a0_0 a0_1 a0_2 a0_3 a0_4 a0_5 l0_6 a0_7 a0_8 a0_9 a0_10 a0_11 a0_12 = some r) : Tri Try.prog 153 [.c (.ptr (.arg 0) [] 0)] [(.arg 0, ⟨.box, 0, [.sc (.int .u32 a0_0), .sc (.int .i64 a0_1), .sc (.int .i64 a0_2), .sc (.int .i64 a0_3), .sc (.int .i64 a0_4), .sc (.int .i64 a0_5), .own 1 l0_6.length (encL c_i64 l0_6), .sc (.int .i64 a0_7), .sc (.int .i64 a0_8), .sc (.int .i64 a0_9), .sc (.int .i64 a0_10), .sc (.int .i64 a0_11), .sc (.bool a0_12)]⟩)] (fun o => o = ⟨.g [.sc (.int .i64 r.1), .ref (.res 0) [] 0 r.2.1.length, .ref (.res 1) [] 0 r.2.2.1.length, .sc (.int .i64 r.2.2.2.1), .sc (.int .i64 r.2.2.2.2.1)], [(.arg 0, ⟨.box, 0, [.sc (.int .u32 a0_0), .sc (.int .i64 a0_1), .sc (.int .i64 a0_2), .sc (.int .i64 a0_3), .sc (.int .i64 a0_4), .sc (.int .i64 a0_5), .own 1 l0_6.length (encL c_i64 l0_6), .sc (.int .i64 a0_7), .sc (.int .i64 r.2.2.2.2.2.1), .sc (.int .i64 r.2.2.2.2.2.2.1), .sc (.int .i64 r.2.2.2.2.2.2.2.1), .sc (.int .i64 r.2.2.2.2.2.2.2.2.1), .sc (.bool r.2.2.2.2.2.2.2.2.2)]⟩), (.res 0, ⟨.lst, 3, encL c68 r.2.1⟩), (.res 1, ⟨.lst, 1, encL c_i64 r.2.2.1⟩)], [], []⟩) := by
 refine tri_of_body (ac := C153) (xs := r153) Try.func153 (show Try.f153.body = some (Try.f153.body.getD .skip) from rfl) k153 q153 (Nat.le_of_ble_eq_true rfl) ?_
 refine body_of fun K hKn hKr => ?_
 unfold spec_l4Tick.f at h
 unfold C153
 simp only [initT, Nat.reduceAdd]
 refine sr_k fun J1 hJ1 => ?_
 simp +decide only [Nat.reduceAdd, Nat.reduceMul, Int.reduceToNat, ak]
 refine gho_k (Weak.own (.tmp 2 0) (cs' := [.sc (.int .i64 0), .own 3 (([] : List S68).length) (encL c68 ([] : List S68)), .own 1 (([] : List Int).length) (encL c_i64 ([] : List Int)), .sc (.int .i64 0), .sc (.int .i64 0)]) rfl ⟨.inl rfl, .inr ⟨rfl, _, rfl⟩, .inr ⟨rfl, _, rfl⟩, .inl rfl, .inl rfl, trivial⟩) ?_
 simp +decide only [Nat.reduceAdd, Nat.reduceMul, Int.reduceToNat, ak]
 refine hJ1 _ ?_
 refine sr_k fun J2 hJ2 => ?_
 simp +decide only [Nat.reduceAdd, Nat.reduceMul, Int.reduceToNat, ak]
 refine gho_k ((Weak.nmg' 4 1 (.tmp 4 21) 3 (encL c68 ([] : List S68)) rfl rfl rfl rfl).trans (Weak.nmg' 4 2 (.tmp 4 22) 1 (encL c_i64 ([] : List Int)) rfl rfl rfl rfl)) ?_
 simp +decide only [Nat.reduceAdd, Nat.reduceMul, Int.reduceToNat, ak]
 refine gho_k (Weak.own (.tmp 3 0) (cs' := [.sc (.int .i64 0), .own 3 (([] : List S68).length) (encL c68 ([] : List S68)), .own 1 (([] : List Int).length) (encL c_i64 ([] : List Int)), .sc (.int .i64 0), .sc (.int .i64 0)]) rfl ⟨.inl rfl, .inr ⟨rfl, _, rfl⟩, .inr ⟨rfl, _, rfl⟩, .inl rfl, .inl rfl, trivial⟩) ?_
 have g3 : (encL c68 ([] : List S68)).length = 0 * 3 := by simp [encL_length c68_w]
 have g4 : (encL c_i64 ([] : List Int)).length = 0 * 1 := by simp [encL_length c_i64_w]
 simp +decide only [Nat.reduceAdd, Nat.reduceMul, Int.reduceToNat, ak, g3, g4]
 refine hJ2 _ ?_
 refine seq_k fun J5 hJ5 => ?_
 refine sr_k fun J6 hJ6 => ?_
 simp +decide only [Nat.reduceAdd, Nat.reduceMul, Int.reduceToNat, ak]
 refine hJ6 _ ?_
 refine cond_k (b := a0_12) rfl (fun c9 => ?_) (fun c9 => ?_)
 ·rw [if_pos c9] at h
  refine sr_k fun J10 hJ10 => ?_
  simp +decide only [Nat.reduceAdd, Nat.reduceMul, Int.reduceToNat, ak]
  refine hJ10 _ ?_
  obtain ⟨j11, h12, hn⟩ := of_bind h
  refine seq_j (fun st => st = ⟨[(2, .c (.ptr (.tmp 2 0) [] 0)), (3, .c (.ptr (.tmp 3 0) [] 0))], [(.arg 0, ⟨.box, 0, [.sc (.int .u32 a0_0), .sc (.int .i64 a0_1), .sc (.int .i64 a0_2), .sc (.int .i64 a0_3), .sc (.int .i64 a0_4), .sc (.int .i64 a0_5), .own 1 l0_6.length (encL c_i64 l0_6), .sc (.int .i64 a0_7), .sc (.int .i64 a0_8), .sc (.int .i64 a0_9), .sc (.int .i64 a0_10), .sc (.int .i64 j11.1), .sc (.bool a0_12)]⟩), (.tmp 2 0, ⟨.box, 0, [.sc (.int .i64 0), .own 3 (([] : List S68).length) (encL c68 ([] : List S68)), .own 1 (([] : List Int).length) (encL c_i64 ([] : List Int)), .sc (.int .i64 0), .sc (.int .i64 0)]⟩), (.tmp 3 0, ⟨.box, 0, [.sc (.int .i64 0), .own 3 j11.2.length (encL c68 j11.2), .own 1 0 (encL c_i64 ([] : List Int)), .sc (.int .i64 0), .sc (.int .i64 0)]⟩)], [], []⟩) (fun J13 hJ13 => ?_) ?_
  ·replace h := h12; clear hn
   refine ga_k fun G14 G14n G14r G14x => ?_
   refine sr_k fun J15 hJ15 => ?_
   simp +decide only [Nat.reduceAdd, Nat.reduceMul, Int.reduceToNat, ak]
   refine hJ15 _ ?_
   refine cond_k (b := decide (IntKind.i64.wrap (a0_11 - 1) = 0)) rfl (fun c16 => ?_) (fun c16 => ?_)
   ·replace c16 := of_decide_eq_true c16; rw [if_pos c16] at h
    refine sd_k fun J17 hJ17 => ?_
    simp +decide only [Nat.reduceAdd, Nat.reduceMul, Int.reduceToNat, ak]
    refine alt_e ?_
    ·have g23 : (List.replicate 1 ([.int .i64 0, .int .u32 0, .int .i64 0] : List Value)).flatten = [.int .i64 0, .int .u32 0, .int .i64 0] := rfl
     have g24 : (⟨.lst, 3, [.sc (.int .i64 3), .sc (.int .u32 (IntKind.u32.wrap (a0_0 + (IntKind.u32.wrap a0_7)))), .sc (.int .i64 0)]⟩ : Root) = ⟨.lst, 3, encL c68 ([(⟨3, IntKind.u32.wrap (a0_0 + (IntKind.u32.wrap a0_7)), 0⟩ : S68)] : List S68)⟩ := rfl
     have g25 : ([(⟨3, IntKind.u32.wrap (a0_0 + (IntKind.u32.wrap a0_7)), 0⟩ : S68)] : List S68).length = 1 := rfl
     simp +decide only [Nat.reduceAdd, Nat.reduceMul, Int.reduceToNat, ak, g23, g24, g25]
     refine alt_e ?_
     ·have g27 : (encL c68 ([(⟨3, IntKind.u32.wrap (a0_0 + (IntKind.u32.wrap a0_7)), 0⟩ : S68)] : List S68)).length = 1 * 3 := by simp [encL_length c68_w]
      simp +decide only [Nat.reduceAdd, Nat.reduceMul, Int.reduceToNat, ak, g27]
      refine hJ17 _ ?_
      refine reg_k ?_
      simp +decide only [Nat.reduceAdd, Nat.reduceMul, Int.reduceToNat, ak]
      obtain rfl := Option.some.inj h
      refine G14n _ _ (wj [2, 3] [pI (.arg 0) .box, pI (.tmp 2 0) .box, pI (.tmp 3 0) .box]) (hJ13 _ rfl)
   ·replace c16 := of_decide_eq_false c16; rw [if_neg c16] at h
    obtain rfl := Option.some.inj h
    refine G14n _ _ (wj [2, 3] [pI (.arg 0) .box, pI (.tmp 2 0) .box, pI (.tmp 3 0) .box]) (hJ13 _ rfl)
  ·replace h := hn; clear hn h12
   rintro _ rfl
   refine sr_k fun J28 hJ28 => ?_
   simp +decide only [Nat.reduceAdd, Nat.reduceMul, Int.reduceToNat, ak]
   refine hJ28 _ ?_
   obtain rfl := Option.some.inj h
   refine hKr _ ⟨_, rfl, [⟨(.tmp 3 0), [1], none, .lst⟩, ⟨(.tmp 3 0), [2], none, .lst⟩], _, rfl, rfl, ?_⟩
   exact cl
 ·rw [if_neg (Bool.eq_false_iff.1 c9)] at h
  refine hJ5 _ ?_
  refine seq_k fun J29 hJ29 => ?_
  refine sr_k fun J30 hJ30 => ?_
  simp +decide only [Nat.reduceAdd, Nat.reduceMul, Int.reduceToNat, ak]
  refine hJ30 _ ?_
  refine cond_k (b := decide (a0_8 = 0)) rfl (fun c31 => ?_) (fun c31 => ?_)
  ·replace c31 := of_decide_eq_true c31; rw [if_pos c31] at h
   refine sr_k fun J32 hJ32 => ?_
   simp +decide only [Nat.reduceAdd, Nat.reduceMul, Int.reduceToNat, ak]
   refine hJ32 _ ?_
   obtain rfl := Option.some.inj h
   refine hKr _ ⟨_, rfl, [⟨(.tmp 3 0), [1], none, .lst⟩, ⟨(.tmp 3 0), [2], none, .lst⟩], _, rfl, rfl, ?_⟩
   exact cl
  ·replace c31 := of_decide_eq_false c31; rw [if_neg c31] at h
   refine hJ29 _ ?_
   refine sr_k fun J33 hJ33 => ?_
   simp +decide only [Nat.reduceAdd, Nat.reduceMul, Int.reduceToNat, ak]
   refine hJ33 _ ?_
   refine seq_k fun J34 hJ34 => ?_
   refine sr_k fun J35 hJ35 => ?_
   simp +decide only [Nat.reduceAdd, Nat.reduceMul, Int.reduceToNat, ak]
   refine hJ35 _ ?_
   refine cond_k (b := decide (IntKind.i64.wrap (a0_8 - 1) > 0)) rfl (fun c38 => ?_) (fun c38 => ?_)
   ·replace c38 := of_decide_eq_true c38; rw [if_pos c38] at h
    refine sr_k fun J39 hJ39 => ?_
    simp +decide only [Nat.reduceAdd, Nat.reduceMul, Int.reduceToNat, ak]
    refine hJ39 _ ?_
    obtain rfl := Option.some.inj h
    refine hKr _ ⟨_, rfl, [⟨(.tmp 3 0), [1], none, .lst⟩, ⟨(.tmp 3 0), [2], none, .lst⟩], _, rfl, rfl, ?_⟩
    exact cl
   ·replace c38 := of_decide_eq_false c38; rw [if_neg c38] at h
    refine hJ34 _ ?_
    refine sr_k fun J40 hJ40 => ?_
    simp +decide only [Nat.reduceAdd, Nat.reduceMul, Int.reduceToNat, ak]
    refine hJ40 _ ?_
    refine seq_k fun J41 hJ41 => ?_
    refine sd_k fun J42 hJ42 => ?_
    simp +decide only [Nat.reduceAdd, Nat.reduceMul, Int.reduceToNat, ak]
    refine hJ42 _ ?_
    refine cond_k (b := decide (IntKind.i64.wrap (a0_10 + 1) = a0_4)) rfl (fun c43 => ?_) (fun c43 => ?_)
    ·replace c43 := of_decide_eq_true c43; rw [if_pos c43] at h
     refine sr_k fun J44 hJ44 => ?_
     simp +decide only [Nat.reduceAdd, Nat.reduceMul, Int.reduceToNat, ak]
     refine hJ44 _ ?_
     refine sr_k fun J45 hJ45 => ?_
     simp +decide only [Nat.reduceAdd, Nat.reduceMul, Int.reduceToNat, ak]
     refine hJ45 _ ?_
     refine sr_k fun J46 hJ46 => ?_
     simp +decide only [Nat.reduceAdd, Nat.reduceMul, Int.reduceToNat, ak]
     refine hJ46 _ ?_
     refine sr_k fun J47 hJ47 => ?_
     simp +decide only [Nat.reduceAdd, Nat.reduceMul, Int.reduceToNat, ak]
     refine hJ47 _ ?_
     obtain rfl := Option.some.inj h
     refine hKr _ ⟨_, rfl, [⟨(.tmp 3 0), [1], none, .lst⟩, ⟨(.tmp 3 0), [2], none, .lst⟩], _, rfl, rfl, ?_⟩
     exact cl
    ·replace c43 := of_decide_eq_false c43; rw [if_neg c43] at h
     refine hJ41 _ ?_
     refine sr_k fun J48 hJ48 => ?_
     simp +decide only [Nat.reduceAdd, Nat.reduceMul, Int.reduceToNat, ak]
     refine hJ48 _ ?_
     obtain ⟨j49, h50, hn⟩ := of_bind h
     refine seq_j (fun st => st = ⟨[(0, .c (.ptr (.arg 0) [] 0)), (2, .c (.ptr (.tmp 2 0) [] 0)), (3, .c (.ptr (.tmp 3 0) [] 0))], [(.arg 0, ⟨.box, 0, [.sc (.int .u32 a0_0), .sc (.int .i64 a0_1), .sc (.int .i64 a0_2), .sc (.int .i64 a0_3), .sc (.int .i64 a0_4), .sc (.int .i64 a0_5), .own 1 l0_6.length (encL c_i64 l0_6), .sc (.int .i64 a0_7), .sc (.int .i64 (IntKind.i64.wrap (a0_8 - 1))), .sc (.int .i64 j49), .sc (.int .i64 (IntKind.i64.wrap (a0_10 + 1))), .sc (.int .i64 a0_11), .sc (.bool a0_12)]⟩), (.tmp 2 0, ⟨.box, 0, [.sc (.int .i64 0), .own 3 (([] : List S68).length) (encL c68 ([] : List S68)), .own 1 (([] : List Int).length) (encL c_i64 ([] : List Int)), .sc (.int .i64 0), .sc (.int .i64 0)]⟩), (.tmp 3 0, ⟨.box, 0, [.sc (.int .i64 0), .own 3 0 (encL c68 ([] : List S68)), .own 1 0 (encL c_i64 ([] : List Int)), .sc (.int .i64 0), .sc (.int .i64 0)]⟩)], [], []⟩) (fun J51 hJ51 => ?_) ?_
     ·replace h := h50; clear hn
      refine ga_k fun G52 G52n G52r G52x => ?_
      refine sd_k fun J53 hJ53 => ?_
      simp +decide only [Nat.reduceAdd, Nat.reduceMul, Int.reduceToNat, ak]
      refine hJ53 _ ?_
      refine cond_k (b := decide (IntKind.i64.wrap (2 * a0_9) > a0_3)) rfl (fun c56 => ?_) (fun c56 => ?_)
      ·replace c56 := of_decide_eq_true c56; rw [if_pos c56] at h
       refine reg_k ?_
       simp +decide only [Nat.reduceAdd, Nat.reduceMul, Int.reduceToNat, ak]
       obtain rfl := Option.some.inj h
       refine G52n _ _ (wj [0, 2, 3] [pI (.arg 0) .box, pI (.tmp 2 0) .box, pI (.tmp 3 0) .box]) (hJ51 _ rfl)
      ·replace c56 := of_decide_eq_false c56; rw [if_neg c56] at h
       obtain rfl := Option.some.inj h
       refine G52n _ _ (wj [0, 2, 3] [pI (.arg 0) .box, pI (.tmp 2 0) .box, pI (.tmp 3 0) .box]) (hJ51 _ rfl)
     ·replace h := hn; clear hn h50
      rintro _ rfl
      refine sr_k fun J57 hJ57 => ?_
      simp +decide only [Nat.reduceAdd, Nat.reduceMul, Int.reduceToNat, ak]
      refine hJ57 _ ?_
      refine sr_k fun J58 hJ58 => ?_
      simp +decide only [Nat.reduceAdd, Nat.reduceMul, Int.reduceToNat, ak]
      obtain ⟨t59, h60, h⟩ := of_bind h
      refine cm [pI (.arg 0) .box] (spec_l4Again.tri a0_0 a0_1 a0_2 a0_3 a0_4 a0_5 l0_6 a0_7 j49 j49 (IntKind.i64.wrap (a0_10 + 1)) a0_11 a0_12 _ h60) (fun hl60 => ?_)
      refine ct (.c (.ref (.tmp 130 0) [] 0 t59.length)) (mW [.sc (.int .u32 a0_0), .sc (.int .i64 a0_1), .sc (.int .i64 a0_2), .sc (.int .i64 a0_3), .sc (.int .i64 a0_4), .sc (.int .i64 a0_5), .own 1 l0_6.length (encL c_i64 l0_6), .sc (.int .i64 a0_7), .sc (.int .i64 j49), .sc (.int .i64 j49), .sc (.int .i64 (IntKind.i64.wrap (a0_10 + 1))), .sc (.int .i64 a0_11), .sc (.bool a0_12)] (mN ..)) ?_ (s4 := [(.arg 0, ⟨.box, 0, [.sc (.int .u32 a0_0), .sc (.int .i64 a0_1), .sc (.int .i64 a0_2), .sc (.int .i64 a0_3), .sc (.int .i64 a0_4), .sc (.int .i64 a0_5), .own 1 l0_6.length (encL c_i64 l0_6), .sc (.int .i64 a0_7), .sc (.int .i64 j49), .sc (.int .i64 j49), .sc (.int .i64 (IntKind.i64.wrap (a0_10 + 1))), .sc (.int .i64 a0_11), .sc (.bool a0_12)]⟩), (.tmp 2 0, ⟨.box, 0, [.sc (.int .i64 0), .own 3 (([] : List S68).length) (encL c68 ([] : List S68)), .own 1 (([] : List Int).length) (encL c_i64 ([] : List Int)), .sc (.int .i64 0), .sc (.int .i64 0)]⟩), (.tmp 3 0, ⟨.box, 0, [.sc (.int .i64 0), .own 3 0 (encL c68 ([] : List S68)), .own 1 0 (encL c_i64 ([] : List Int)), .sc (.int .i64 0), .sc (.int .i64 0)]⟩), (.tmp 130 0, ⟨.lst, 3, encL c68 t59⟩)])
      have g62 : (encL c68 t59).length = t59.length * 3 := by simp [encL_length c68_w]
      simp +decide only [Nat.reduceAdd, Nat.reduceMul, Int.reduceToNat, ak, g62]
      refine hJ58 _ ?_
      refine sr_k fun J63 hJ63 => ?_
      simp +decide only [Nat.reduceAdd, Nat.reduceMul, Int.reduceToNat, ak]
      refine hJ63 _ ?_
      obtain rfl := Option.some.inj h
      refine hKr _ ⟨_, rfl, [⟨(.tmp 3 0), [1], none, .lst⟩, ⟨(.tmp 3 0), [2], none, .lst⟩], _, rfl, rfl, ?_⟩
      exact cl
/-! ### spec.l4Step: function 129 -/
def C129 : AC := .sr [.o (.box 3 (.t 1)), .o (.alloc 4 [.int .i64 0, .slice none 0 0, .slice none 0 0, .int .i64 0, .int .i64 0]), .gh, .keep [0, 3, 4]] (.seq (.sr [.fa 5 0 3, .ld 6 1 5, .keep [0, 3, 4, 6]] (.block 0 (.sr [.o (.bin 8 .eql (.t 6) (.k 1)), .m 7 8, .keep [0, 3, 4, 6, 7]] (.cond (.t 7) (.sr [.m 9 0, .fa 10 1 3, .ld 11 1 10, .call none (some 12) 151 [.tmp 9, .tmp 11], .st 5 4 12, .keep [4]] (.gh .ret)) (.sr [.o (.bin 14 .eql (.t 6) (.k 2)), .m 13 14, .keep [0, 3, 4, 6, 13]] (.cond (.t 13) (.sr [.m 15 0, .fa 16 2 3, .ld 17 1 16, .call none (some 18) 152 [.tmp 15, .tmp 17], .st 5 4 18, .keep [4]] (.gh .ret)) (.sr [.o (.bin 20 .eql (.t 6) (.k 3)), .m 19 20, .keep [0, 4, 19]] (.cond (.t 19) (.sr [.m 21 0, .call none (some 22) 153 [.tmp 21], .st 5 4 22, .keep [4]] (.gh .ret)) (.skip))))))))) (.sr [.o (.build 23 [.int .i64 0, .slice none 0 0, .slice none 0 0, .int .i64 0, .int .i64 0] [(0, 1, .const (.int .i64 1))]), .gh, .st 5 4 23, .keep [4]] (.gh .ret)))
def r129 : List RV := [.cell 4 true 5]
theorem k129 : compC Try.prog 24 C129 (Try.f129.body.getD .skip) = some C129.erase := by kernel_rfl
theorem q129 : rvsOf Try.prog Try.f129.results.toList = some r129 := by kernel_rfl
def spec_l4Step.f (a0_0 : Int) (a0_1 : Int) (a0_2 : Int) (a0_3 : Int) (a0_4 : Int) (a0_5 : Int) (l0_6 : List Int) (a0_7 : Int) (a0_8 : Int) (a0_9 : Int) (a0_10 : Int) (a0_11 : Int) (a0_12 : Bool) (a1_0 : Int) (a1_1 : Int) (a1_2 : Int) : Option (Int × (List S68) × (List Int) × Int × Int × (List Int) × Int × Int × Int × Int × Int × Bool) := (if a1_0 = 1 then (spec_l4Send.f a0_0 a0_1 a0_2 a0_3 a0_4 a0_5 l0_6 a0_7 a0_8 a0_9 a0_10 a0_11 a0_12 a1_1 >>= fun t8 => (some (t8.1, t8.2.1, t8.2.2.1, t8.2.2.2.1, t8.2.2.2.2.1, t8.2.2.2.2.2.1, a0_7, t8.2.2.2.2.2.2, a0_9, a0_10, a0_11, a0_12))) else (if a1_0 = 2 then (spec_l4Ack.f a0_0 a0_1 a0_2 a0_3 a0_4 a0_5 l0_6 a0_7 a0_8 a0_9 a0_10 a0_11 a0_12 a1_2 >>= fun t17 => (some (t17.1, t17.2.1, t17.2.2.1, t17.2.2.2.1, t17.2.2.2.2.1, l0_6, t17.2.2.2.2.2.1, t17.2.2.2.2.2.2.1, t17.2.2.2.2.2.2.2.1, t17.2.2.2.2.2.2.2.2.1, t17.2.2.2.2.2.2.2.2.2.1, t17.2.2.2.2.2.2.2.2.2.2))) else (if a1_0 = 3 then (spec_l4Tick.f a0_0 a0_1 a0_2 a0_3 a0_4 a0_5 l0_6 a0_7 a0_8 a0_9 a0_10 a0_11 a0_12 >>= fun t25 => (some (t25.1, t25.2.1, t25.2.2.1, t25.2.2.2.1, t25.2.2.2.2.1, l0_6, a0_7, t25.2.2.2.2.2.1, t25.2.2.2.2.2.2.1, t25.2.2.2.2.2.2.2.1, t25.2.2.2.2.2.2.2.2.1, t25.2.2.2.2.2.2.2.2.2))) else (some (1, ([] : List S68), ([] : List Int), 0, 0, l0_6, a0_7, a0_8, a0_9, a0_10, a0_11, a0_12)))))
theorem spec_l4Step.tri (a0_0 : Int) (a0_1 : Int) (a0_2 : Int) (a0_3 : Int) (a0_4 : Int) (a0_5 : Int) (l0_6 : List Int) (a0_7 : Int) (a0_8 : Int) (a0_9 : Int) (a0_10 : Int) (a0_11 : Int) (a0_12 : Bool) (a1_0 : Int) (a1_1 : Int) (a1_2 : Int) (r : Int × (List S68) × (List Int) × Int × Int × (List Int) × Int × Int × Int × Int × Int × Bool) (h : spec_l4Step.f a0_0 a0_1 a0_2 a0_3 a0_4 a0_5 l0_6 a0_7 a0_8 a0_9 a0_10 a0_11 a0_12 a1_0 a1_1 a1_2 = some r) : Tri Try.prog 129 [.c (.ptr (.arg 0) [] 0), .g [.sc (.int .i64 a1_0), .sc (.int .i64 a1_1), .sc (.int .u32 a1_2)]] [(.arg 0, ⟨.box, 0, [.sc (.int .u32 a0_0), .sc (.int .i64 a0_1), .sc (.int .i64 a0_2), .sc (.int .i64 a0_3), .sc (.int .i64 a0_4), .sc (.int .i64 a0_5), .own 1 l0_6.length (encL c_i64 l0_6), .sc (.int .i64 a0_7), .sc (.int .i64 a0_8), .sc (.int .i64 a0_9), .sc (.int .i64 a0_10), .sc (.int .i64 a0_11), .sc (.bool a0_12)]⟩)] (fun o => o = ⟨.g [.sc (.int .i64 r.1), .ref (.res 0) [] 0 r.2.1.length, .ref (.res 1) [] 0 r.2.2.1.length, .sc (.int .i64 r.2.2.2.1), .sc (.int .i64 r.2.2.2.2.1)], [(.arg 0, ⟨.box, 0, [.sc (.int .u32 a0_0), .sc (.int .i64 a0_1), .sc (.int .i64 a0_2), .sc (.int .i64 a0_3), .sc (.int .i64 a0_4), .sc (.int .i64 a0_5), .own 1 r.2.2.2.2.2.1.length (encL c_i64 r.2.2.2.2.2.1), .sc (.int .i64 r.2.2.2.2.2.2.1), .sc (.int .i64 r.2.2.2.2.2.2.2.1), .sc (.int .i64 r.2.2.2.2.2.2.2.2.1), .sc (.int .i64 r.2.2.2.2.2.2.2.2.2.1), .sc (.int .i64 r.2.2.2.2.2.2.2.2.2.2.1), .sc (.bool r.2.2.2.2.2.2.2.2.2.2.2)]⟩), (.res 0, ⟨.lst, 3, encL c68 r.2.1⟩), (.res 1, ⟨.lst, 1, encL c_i64 r.2.2.1⟩)], [0], []⟩) := by
 refine tri_of_body (ac := C129) (xs := r129) Try.func129 (show Try.f129.body = some (Try.f129.body.getD .skip) from rfl) k129 q129 (Nat.le_of_ble_eq_true rfl) ?_
 refine body_of fun K hKn hKr => ?_
 unfold spec_l4Step.f at h
 unfold C129
 simp only [initT, Nat.reduceAdd]
 refine sr_k fun J1 hJ1 => ?_
 simp +decide only [Nat.reduceAdd, Nat.reduceMul, Int.reduceToNat, ak]
 refine gho_k (Weak.own (.tmp 4 0) (cs' := [.sc (.int .i64 0), .own 3 (([] : List S68).length) (encL c68 ([] : List S68)), .own 1 (([] : List Int).length) (encL c_i64 ([] : List Int)), .sc (.int .i64 0), .sc (.int .i64 0)]) rfl ⟨.inl rfl, .inr ⟨rfl, _, rfl⟩, .inr ⟨rfl, _, rfl⟩, .inl rfl, .inl rfl, trivial⟩) ?_
 simp +decide only [Nat.reduceAdd, Nat.reduceMul, Int.reduceToNat, ak]
 refine hJ1 _ ?_
 refine seq_k fun J2 hJ2 => ?_
 refine sr_k fun J3 hJ3 => ?_
 simp +decide only [Nat.reduceAdd, Nat.reduceMul, Int.reduceToNat, ak]
 refine hJ3 _ ?_
 refine block_k fun B4 B4n B4x B4r B4j => ?_
 refine sr_k fun J5 hJ5 => ?_
 simp +decide only [Nat.reduceAdd, Nat.reduceMul, Int.reduceToNat, ak]
 refine hJ5 _ ?_
 refine cond_k (b := decide (a1_0 = 1)) rfl (fun c6 => ?_) (fun c6 => ?_)
 ·replace c6 := of_decide_eq_true c6; rw [if_pos c6] at h
  refine sr_k fun J7 hJ7 => ?_
  simp +decide only [Nat.reduceAdd, Nat.reduceMul, Int.reduceToNat, ak]
  obtain ⟨t8, h9, h⟩ := of_bind h
  refine cm [pI (.arg 0) .box] (spec_l4Send.tri a0_0 a0_1 a0_2 a0_3 a0_4 a0_5 l0_6 a0_7 a0_8 a0_9 a0_10 a0_11 a0_12 a1_1 _ h9) (fun hl9 => ?_)
  refine call_st (s2 := [(.arg 0, ⟨.box, 0, [.sc (.int .u32 a0_0), .sc (.int .i64 a0_1), .sc (.int .i64 a0_2), .sc (.int .i64 a0_3), .sc (.int .i64 a0_4), .sc (.int .i64 a0_5), .own 1 l0_6.length (encL c_i64 l0_6), .sc (.int .i64 a0_7), .sc (.int .i64 a0_8), .sc (.int .i64 a0_9), .sc (.int .i64 a0_10), .sc (.int .i64 a0_11), .sc (.bool a0_12)]⟩), (.tmp 3 0, ⟨.box, 0, [.sc (.int .i64 a1_0), .sc (.int .i64 a1_1), .sc (.int .u32 a1_2)]⟩), (.tmp 4 0, ⟨.box, 0, [.sc (.int .i64 0), .own 3 (([] : List S68).length) (encL c68 ([] : List S68)), .own 1 (([] : List Int).length) (encL c_i64 ([] : List Int)), .sc (.int .i64 0), .sc (.int .i64 0)]⟩)]) (s4 := [(.arg 0, ⟨.box, 0, [.sc (.int .u32 a0_0), .sc (.int .i64 a0_1), .sc (.int .i64 a0_2), .sc (.int .i64 a0_3), .sc (.int .i64 a0_4), .sc (.int .i64 a0_5), .own 1 t8.2.2.2.2.2.1.length (encL c_i64 t8.2.2.2.2.2.1), .sc (.int .i64 a0_7), .sc (.int .i64 t8.2.2.2.2.2.2), .sc (.int .i64 a0_9), .sc (.int .i64 a0_10), .sc (.int .i64 a0_11), .sc (.bool a0_12)]⟩), (.tmp 3 0, ⟨.box, 0, [.sc (.int .i64 a1_0), .sc (.int .i64 a1_1), .sc (.int .u32 a1_2)]⟩), (.tmp 4 0, ⟨.box, 0, [.sc (.int .i64 0), .own 3 (([] : List S68).length) (encL c68 ([] : List S68)), .own 1 (([] : List Int).length) (encL c_i64 ([] : List Int)), .sc (.int .i64 0), .sc (.int .i64 0)]⟩), (.tmp 12 1, ⟨.lst, 1, encL c_i64 t8.2.2.1⟩), (.tmp 12 0, ⟨.lst, 3, encL c68 t8.2.1⟩)]) (t' := [(0, .c (.ptr (.arg 0) [] 0)), (3, .c (.ptr (.tmp 3 0) [] 0)), (4, .c (.ptr (.tmp 4 0) [] 0)), (6, .c (.sc (.int .i64 a1_0))), (7, .c (.sc (.bool (decide (a1_0 = 1))))), (9, .c (.ptr (.arg 0) [] 0)), (10, .c (.ptr (.tmp 3 0) [] 1)), (11, .c (.sc (.int .i64 a1_1)))]) (m1' := [0]) (m2' := []) (v' := .g [.sc (.int .i64 t8.1), .ref (.tmp 12 0) [] 0 t8.2.1.length, .ref (.tmp 12 1) [] 0 t8.2.2.1.length, .sc (.int .i64 t8.2.2.2.1), .sc (.int .i64 t8.2.2.2.2.1)]) (by first | rfl | simp only [reduceCtorEq, Nat.reduceEqDiff, ak, akF, List.contains_nil, List.contains_cons, Nat.reduceBEq]) (mrgL_whole (new' := [.sc (.int .u32 a0_0), .sc (.int .i64 a0_1), .sc (.int .i64 a0_2), .sc (.int .i64 a0_3), .sc (.int .i64 a0_4), .sc (.int .i64 a0_5), .own 1 t8.2.2.2.2.2.1.length (encL c_i64 t8.2.2.2.2.2.1), .sc (.int .i64 a0_7), .sc (.int .i64 t8.2.2.2.2.2.2), .sc (.int .i64 a0_9), .sc (.int .i64 a0_10), .sc (.int .i64 a0_11), .sc (.bool a0_12)]) (mrgL_nil' _ _ _) rfl (by rfl) (.inl ⟨rfl, by first | rfl | simp only [reduceCtorEq, Nat.reduceEqDiff, ak, akF, Nat.zero_add, List.append_nil]⟩)) (by rfl) (by first | rfl | simp only [reduceCtorEq, Nat.reduceEqDiff, ak, akF, List.contains_nil, List.contains_cons, Nat.reduceBEq]) (by rfl) (by rfl) (by first | rfl | simp only [reduceCtorEq, Nat.reduceEqDiff, ak, akF, Nat.zero_add, List.append_nil]) ?_
  have g11 : (encL c68 t8.2.1).length = t8.2.1.length * 3 := by simp [encL_length c68_w]
  have g12 : (encL c_i64 t8.2.2.1).length = t8.2.2.1.length * 1 := by simp [encL_length c_i64_w]
  simp +decide only [Nat.reduceAdd, Nat.reduceMul, Int.reduceToNat, ak, g11, g12]
  refine hJ7 _ ?_
  refine gh_k (Weak.mark [0] [] (by simp) (by simp)) ?_
  refine B4r _ ?_
  obtain rfl := Option.some.inj h
  refine hKr _ ⟨_, rfl, [⟨(.tmp 4 0), [1], none, .lst⟩, ⟨(.tmp 4 0), [2], none, .lst⟩], _, rfl, rfl, ?_⟩
  exact cl
 ·replace c6 := of_decide_eq_false c6; rw [if_neg c6] at h
  refine sr_k fun J13 hJ13 => ?_
  simp +decide only [Nat.reduceAdd, Nat.reduceMul, Int.reduceToNat, ak]
  refine hJ13 _ ?_
  refine cond_k (b := decide (a1_0 = 2)) rfl (fun c15 => ?_) (fun c15 => ?_)
  ·replace c15 := of_decide_eq_true c15; rw [if_pos c15] at h
   refine sr_k fun J16 hJ16 => ?_
   simp +decide only [Nat.reduceAdd, Nat.reduceMul, Int.reduceToNat, ak]
   obtain ⟨t17, h18, h⟩ := of_bind h
   refine cm [pI (.arg 0) .box] (spec_l4Ack.tri a0_0 a0_1 a0_2 a0_3 a0_4 a0_5 l0_6 a0_7 a0_8 a0_9 a0_10 a0_11 a0_12 a1_2 _ h18) (fun hl18 => ?_)
   refine ct (.g [.sc (.int .i64 t17.1), .ref (.tmp 18 0) [] 0 t17.2.1.length, .ref (.tmp 18 1) [] 0 t17.2.2.1.length, .sc (.int .i64 t17.2.2.2.1), .sc (.int .i64 t17.2.2.2.2.1)]) (mW [.sc (.int .u32 a0_0), .sc (.int .i64 a0_1), .sc (.int .i64 a0_2), .sc (.int .i64 a0_3), .sc (.int .i64 a0_4), .sc (.int .i64 a0_5), .own 1 l0_6.length (encL c_i64 l0_6), .sc (.int .i64 t17.2.2.2.2.2.1), .sc (.int .i64 t17.2.2.2.2.2.2.1), .sc (.int .i64 t17.2.2.2.2.2.2.2.1), .sc (.int .i64 t17.2.2.2.2.2.2.2.2.1), .sc (.int .i64 t17.2.2.2.2.2.2.2.2.2.1), .sc (.bool t17.2.2.2.2.2.2.2.2.2.2)] (mN ..)) ?_ (s4 := [(.arg 0, ⟨.box, 0, [.sc (.int .u32 a0_0), .sc (.int .i64 a0_1), .sc (.int .i64 a0_2), .sc (.int .i64 a0_3), .sc (.int .i64 a0_4), .sc (.int .i64 a0_5), .own 1 l0_6.length (encL c_i64 l0_6), .sc (.int .i64 t17.2.2.2.2.2.1), .sc (.int .i64 t17.2.2.2.2.2.2.1), .sc (.int .i64 t17.2.2.2.2.2.2.2.1), .sc (.int .i64 t17.2.2.2.2.2.2.2.2.1), .sc (.int .i64 t17.2.2.2.2.2.2.2.2.2.1), .sc (.bool t17.2.2.2.2.2.2.2.2.2.2)]⟩), (.tmp 3 0, ⟨.box, 0, [.sc (.int .i64 a1_0), .sc (.int .i64 a1_1), .sc (.int .u32 a1_2)]⟩), (.tmp 4 0, ⟨.box, 0, [.sc (.int .i64 0), .own 3 (([] : List S68).length) (encL c68 ([] : List S68)), .own 1 (([] : List Int).length) (encL c_i64 ([] : List Int)), .sc (.int .i64 0), .sc (.int .i64 0)]⟩), (.tmp 18 1, ⟨.lst, 1, encL c_i64 t17.2.2.1⟩), (.tmp 18 0, ⟨.lst, 3, encL c68 t17.2.1⟩)])
   have g20 : (encL c68 t17.2.1).length = t17.2.1.length * 3 := by simp [encL_length c68_w]
   have g21 : (encL c_i64 t17.2.2.1).length = t17.2.2.1.length * 1 := by simp [encL_length c_i64_w]
   simp +decide only [Nat.reduceAdd, Nat.reduceMul, Int.reduceToNat, ak, g20, g21]
   refine hJ16 _ ?_
   refine gh_k (Weak.mark [0] [] (by simp) (by simp)) ?_
   refine B4r _ ?_
   obtain rfl := Option.some.inj h
   refine hKr _ ⟨_, rfl, [⟨(.tmp 4 0), [1], none, .lst⟩, ⟨(.tmp 4 0), [2], none, .lst⟩], _, rfl, rfl, ?_⟩
   exact cl
  ·replace c15 := of_decide_eq_false c15; rw [if_neg c15] at h
   refine sr_k fun J22 hJ22 => ?_
   simp +decide only [Nat.reduceAdd, Nat.reduceMul, Int.reduceToNat, ak]
   refine hJ22 _ ?_
   refine cond_k (b := decide (a1_0 = 3)) rfl (fun c23 => ?_) (fun c23 => ?_)
   ·replace c23 := of_decide_eq_true c23; rw [if_pos c23] at h
    refine sr_k fun J24 hJ24 => ?_
    simp +decide only [Nat.reduceAdd, Nat.reduceMul, Int.reduceToNat, ak]
    obtain ⟨t25, h26, h⟩ := of_bind h
    refine cm [pI (.arg 0) .box] (spec_l4Tick.tri a0_0 a0_1 a0_2 a0_3 a0_4 a0_5 l0_6 a0_7 a0_8 a0_9 a0_10 a0_11 a0_12 _ h26) (fun hl26 => ?_)
    refine ct (.g [.sc (.int .i64 t25.1), .ref (.tmp 22 0) [] 0 t25.2.1.length, .ref (.tmp 22 1) [] 0 t25.2.2.1.length, .sc (.int .i64 t25.2.2.2.1), .sc (.int .i64 t25.2.2.2.2.1)]) (mW [.sc (.int .u32 a0_0), .sc (.int .i64 a0_1), .sc (.int .i64 a0_2), .sc (.int .i64 a0_3), .sc (.int .i64 a0_4), .sc (.int .i64 a0_5), .own 1 l0_6.length (encL c_i64 l0_6), .sc (.int .i64 a0_7), .sc (.int .i64 t25.2.2.2.2.2.1), .sc (.int .i64 t25.2.2.2.2.2.2.1), .sc (.int .i64 t25.2.2.2.2.2.2.2.1), .sc (.int .i64 t25.2.2.2.2.2.2.2.2.1), .sc (.bool t25.2.2.2.2.2.2.2.2.2)] (mN ..)) ?_ (s4 := [(.arg 0, ⟨.box, 0, [.sc (.int .u32 a0_0), .sc (.int .i64 a0_1), .sc (.int .i64 a0_2), .sc (.int .i64 a0_3), .sc (.int .i64 a0_4), .sc (.int .i64 a0_5), .own 1 l0_6.length (encL c_i64 l0_6), .sc (.int .i64 a0_7), .sc (.int .i64 t25.2.2.2.2.2.1), .sc (.int .i64 t25.2.2.2.2.2.2.1), .sc (.int .i64 t25.2.2.2.2.2.2.2.1), .sc (.int .i64 t25.2.2.2.2.2.2.2.2.1), .sc (.bool t25.2.2.2.2.2.2.2.2.2)]⟩), (.tmp 3 0, ⟨.box, 0, [.sc (.int .i64 a1_0), .sc (.int .i64 a1_1), .sc (.int .u32 a1_2)]⟩), (.tmp 4 0, ⟨.box, 0, [.sc (.int .i64 0), .own 3 (([] : List S68).length) (encL c68 ([] : List S68)), .own 1 (([] : List Int).length) (encL c_i64 ([] : List Int)), .sc (.int .i64 0), .sc (.int .i64 0)]⟩), (.tmp 22 1, ⟨.lst, 1, encL c_i64 t25.2.2.1⟩), (.tmp 22 0, ⟨.lst, 3, encL c68 t25.2.1⟩)])
    have g28 : (encL c68 t25.2.1).length = t25.2.1.length * 3 := by simp [encL_length c68_w]
    have g29 : (encL c_i64 t25.2.2.1).length = t25.2.2.1.length * 1 := by simp [encL_length c_i64_w]
    simp +decide only [Nat.reduceAdd, Nat.reduceMul, Int.reduceToNat, ak, g28, g29]
    refine hJ24 _ ?_
    refine gh_k (Weak.mark [0] [] (by simp) (by simp)) ?_
    refine B4r _ ?_
    obtain rfl := Option.some.inj h
    refine hKr _ ⟨_, rfl, [⟨(.tmp 4 0), [1], none, .lst⟩, ⟨(.tmp 4 0), [2], none, .lst⟩], _, rfl, rfl, ?_⟩
    exact cl
   ·replace c23 := of_decide_eq_false c23; rw [if_neg c23] at h
    refine B4n _ ?_
    refine hJ2 _ ?_
    refine sr_k fun J30 hJ30 => ?_
    simp +decide only [Nat.reduceAdd, Nat.reduceMul, Int.reduceToNat, ak]
    refine gho_k ((Weak.nmg' 23 1 (.tmp 23 21) 3 (encL c68 ([] : List S68)) rfl rfl rfl rfl).trans (Weak.nmg' 23 2 (.tmp 23 22) 1 (encL c_i64 ([] : List Int)) rfl rfl rfl rfl)) ?_
    have g31 : (encL c68 ([] : List S68)).length = 0 * 3 := by simp [encL_length c68_w]
    have g32 : (encL c_i64 ([] : List Int)).length = 0 * 1 := by simp [encL_length c_i64_w]
    simp +decide only [Nat.reduceAdd, Nat.reduceMul, Int.reduceToNat, ak, g31, g32]
    refine hJ30 _ ?_
    refine gh_k (Weak.mark [0] [] (by simp) (by simp)) ?_
    obtain rfl := Option.some.inj h
    refine hKr _ ⟨_, rfl, [⟨(.tmp 4 0), [1], none, .lst⟩, ⟨(.tmp 4 0), [2], none, .lst⟩], _, rfl, rfl, ?_⟩
    exact cl
/-! ### spec.l4DrawEvents: function 85 -/
def C85_l0 : AC := .seq (.sr [.m 18 10, .m 19 2, .o (.bin 20 .lss (.t 18) (.t 19)), .keep [0, 2, 4, 7, 8, 9, 10, 20]] (.cond (.t 20) (.skip) (.gh (.exit 0)))) (.seq (.block 1 (.sr [.m 23 0, .call none (some 24) 69 [.tmp 23, .const (.int .i64 100)], .m 11 24, .keep [0, 2, 4, 7, 8, 9, 10, 11]] (.seq (.ga (.sr [.m 25 9, .o (.bin 26 .eql (.t 25) (.k 1)), .keep [0, 2, 4, 7, 8, 9, 10, 11, 26]] (.cond (.t 26) (.reg [.m 27 11, .o (.bin 28 .mul (.t 27) (.k 7)), .o (.bin 29 .quo (.t 28) (.k 10)), .o (.bin 30 .add (.k 30) (.t 29)), .m 11 30, .keep [0, 2, 4, 7, 8, 9, 10, 11]]) (.skip)))) (.sr [.m 31 10, .o (.bin 32 .add (.t 31) (.k 10)), .o (.build 33 [.int .i64 0, .int .i64 0, .int .u32 0] [(0, 1, .const (.int .i64 1)), (1, 1, .tmp 32)]), .o (.alloc 12 [.int .i64 0, .int .i64 0, .int .u32 0]), .st 3 12 33, .keep [0, 2, 4, 7, 8, 9, 10, 11, 12]] (.seq (.ga (.seq (.ga (.reg [.m 34 11, .o (.bin 35 .geq (.t 34) (.k 45)), .m 36 35, .op (some (36, true)) (.mv 37 (.t 11)), .op (some (36, true)) (.bin 38 .lss (.t 37) (.k 60)), .o (.pick 39 (.t 36) (.t 38) (.const (.bool false))), .keep [0, 2, 4, 7, 8, 9, 10, 11, 12, 39]])) (.cond (.t 39) (.seq (.regD (.f (.fa 40 0 4) (.f (.fa 42 7 8) (.f (.m 46 0) (.pin [13, 12, 11, 5] (.ld 41 1 40) (.pin [13, 12, 11, 5, 4] (.ld 43 1 42) (.pin [13, 12, 11, 5] (.o (.conv 44 .u32 (.t 43))) (.pin [13, 12, 11] (.o (.bin 45 .add (.t 41) (.t 44))) (.alt (.call none (some 47) 128 [.tmp 8]) none (.f (.o (.bin 48 .add (.t 47) (.k 1))) (.alt (.call none (some 49) 69 [.tmp 46, .tmp 48]) none (.f (.o (.conv 50 .u32 (.t 49))) (.pin [13, 12] (.o (.bin 51 .add (.t 45) (.t 50))) (.pin [13] (.o (.build 52 [.int .i64 0, .int .i64 0, .int .u32 0] [(0, 1, .const (.int .i64 2)), (2, 1, .tmp 51)])) (.alt (.st 3 12 52) (some 13) (.done) (.stop))))) (.stop))) (.stop))))))))) [0, 2, 4, 7, 8, 9, 10, 12]) (.sr [.m 53 0, .call none (some 54) 69 [.tmp 53, .const (.int .i64 4)], .o (.bin 55 .eql (.t 54) (.k 0)), .keep [0, 2, 4, 7, 8, 9, 10, 12, 55]] (.cond (.t 55) (.regD (.f (.fa 56 0 4) (.f (.fa 58 7 8) (.f (.m 63 0) (.pin [12, 11, 10, 6, 5] (.ld 57 1 56) (.pin [12, 11, 10, 6, 5, 4] (.ld 59 1 58) (.pin [12, 11, 10, 6, 5] (.o (.conv 60 .u32 (.t 59))) (.pin [12, 11, 10, 6] (.o (.bin 61 .add (.t 57) (.t 60))) (.pin [12, 11, 10] (.o (.bin 62 .sub (.t 61) (.const (.int .u32 2)))) (.alt (.call none (some 64) 69 [.tmp 63, .const (.int .i64 8)]) none (.f (.o (.conv 65 .u32 (.t 64))) (.pin [12, 11] (.o (.bin 66 .add (.t 62) (.t 65))) (.pin [12] (.fa 67 2 12) (.alt (.st 1 67 66) (some 12) (.done) (.stop))))) (.stop)))))))))) [0, 2, 4, 7, 8, 9, 10, 12]) (.skip)))) (.sr [.m 68 11, .o (.bin 69 .geq (.t 68) (.k 60)), .keep [0, 2, 4, 7, 8, 9, 10, 12, 69]] (.cond (.t 69) (.reg [.o (.build 70 [.int .i64 0, .int .i64 0, .int .u32 0] [(0, 1, .const (.int .i64 3))]), .st 3 12 70, .keep [0, 2, 4, 7, 8, 9, 10, 12]]) (.skip)))))) (.seq (.ga (.sr [.m 71 0, .call none (some 72) 69 [.tmp 71, .const (.int .i64 60)], .o (.bin 73 .eql (.t 72) (.k 0)), .keep [0, 2, 4, 7, 8, 9, 10, 12, 73]] (.cond (.t 73) (.reg [.m 74 0, .call none (some 75) 69 [.tmp 74, .const (.int .i64 2)], .o (.bin 76 .mul (.k 4) (.t 75)), .fa 77 0 12, .st 1 77 76, .keep [0, 2, 4, 7, 8, 9, 10, 12]]) (.skip)))) (.sr [.o (.load 78 true 3 (.t 12)), .call none (some 79) 129 [.tmp 8, .tmp 78], .keep [0, 2, 4, 7, 8, 9, 10, 12]] (.reg [.m 80 7, .o (.load 81 true 3 (.t 12)), .o (.bslice 82 3 [.int .i64 0, .int .i64 0, .int .u32 0] 1 [(0, .tmp 81)]), .o (.app 83 3 24 true (.t 80) (.t 82)), .m 7 83, .keep [0, 2, 4, 7, 8, 9, 10]])))))))) (.reg [.m 21 10, .o (.bin 22 .add (.t 21) (.k 1)), .m 10 22, .keep [0, 2, 4, 7, 8, 9, 10]]))
def C85 : AC := .sr [.o (.box 4 (.t 1)), .o (.mv 6 (.const (.slice none 0 0))), .gh, .keep [0, 2, 4]] (.sr [.o (.bslice 13 3 [.int .i64 0, .int .i64 0, .int .u32 0] 0 []), .m 7 13, .keep [0, 2, 4, 7]] (.sr [.o (.load 14 true 6 (.t 4)), .call none (some 15) 127 [.tmp 14], .o (.alloc 8 [.int .u32 0, .int .i64 0, .int .i64 0, .int .i64 0, .int .i64 0, .int .i64 0, .slice none 0 0, .int .i64 0, .int .i64 0, .int .i64 0, .int .i64 0, .int .i64 0, .bool false]), .gh, .st 13 8 15, .keep [0, 2, 4, 7, 8]] (.sr [.m 16 0, .call none (some 17) 69 [.tmp 16, .const (.int .i64 3)], .m 9 17, .keep [0, 2, 4, 7, 8, 9]] (.seq (.sr [.o (.mv 10 (.k 0)), .keep [0, 2, 4, 7, 8, 9, 10]] (.block 0 (.gh (.loop (.ga C85_l0))))) (.sr [.m 84 7, .m 6 84, .keep [6]] (.ret))))))
def r85 : List RV := [.tmp 6]
theorem k85 : compC Try.prog 85 C85 (Try.f85.body.getD .skip) = some C85.erase := by kernel_rfl
theorem q85 : rvsOf Try.prog Try.f85.results.toList = some r85 := by kernel_rfl
def spec_l4DrawEvents.l0 (l0_0 : List Int) (x0_0 : Int) (x0_1 : Int) (x0_5 : Int) (x0_6 : Int) (x0_7 : Int) (x0_8 : Int) (x0_9 : Int) (x0_10 : Int) (x0_12 : Int) (x0_13 : Int) (x0_14 : Int) (x0_15 : Int) (x0_16 : Int) (x0_17 : Int) (x0_2 : Int) (x0_3 : Int) (x0_4 : Int) (x0_11 : (List S63)) (x0_18 : (List Int)) (x0_19 : Int) (x0_20 : Int) (x0_21 : Int) (x0_22 : Int) (x0_23 : Int) (x0_24 : Bool) : Option (Int × Int × (List S63)) := (if x0_2 < x0_0 then (spec_l1Next.f l0_0 x0_3 x0_4 100 >>= fun t24 => ((if x0_1 = 1 then (some (IntKind.i64.wrap (30 + (IntKind.i64.wrap ((IntKind.i64.wrap (t24.1 * 7)).tdiv 10))))) else (some t24.1)) >>= fun (j27 : Int) => (((if j27 ≥ 45 then (some (decide (j27 < 60))) else (some false)) >>= fun (j38 : Bool) => (if j38 = true then (spec_l4Out.f x0_12 x0_13 x0_14 x0_15 x0_16 x0_17 x0_18 x0_19 x0_20 x0_21 x0_22 x0_23 x0_24 >>= fun t47 => (spec_l1Next.f l0_0 t24.2.1 t24.2.2 (IntKind.i64.wrap (t47 + 1)) >>= fun t50 => (spec_l1Next.f l0_0 t50.2.1 t50.2.2 4 >>= fun t58 => (if t58.1 = 0 then (spec_l1Next.f l0_0 t58.2.1 t58.2.2 8 >>= fun t62 => (some (t62.2.1, t62.2.2, 2, 0, IntKind.u32.wrap ((IntKind.u32.wrap ((IntKind.u32.wrap (x0_5 + (IntKind.u32.wrap x0_19))) - 2)) + (IntKind.u32.wrap t62.1))))) else (some (t58.2.1, t58.2.2, 2, 0, IntKind.u32.wrap ((IntKind.u32.wrap (x0_5 + (IntKind.u32.wrap x0_19))) + (IntKind.u32.wrap t50.1)))))))) else (if j27 ≥ 60 then (some (t24.2.1, t24.2.2, 3, 0, 0)) else (some (t24.2.1, t24.2.2, 1, IntKind.i64.wrap (x0_2 + 10), 0))))) >>= fun (j34 : Int × Int × Int × Int × Int) => ((spec_l1Next.f l0_0 j34.1 j34.2.1 60 >>= fun t75 => (if t75.1 = 0 then (spec_l1Next.f l0_0 t75.2.1 t75.2.2 2 >>= fun t79 => (some (t79.2.1, t79.2.2, IntKind.i64.wrap (4 * t79.1)))) else (some (t75.2.1, t75.2.2, j34.2.2.1)))) >>= fun (j70 : Int × Int × Int) => (spec_l4Step.f x0_12 x0_13 x0_14 x0_15 x0_16 x0_17 x0_18 x0_19 x0_20 x0_21 x0_22 x0_23 x0_24 j70.2.2 j34.2.2.2.1 j34.2.2.2.2 >>= fun t83 => (if (x0_11.length + 1) * 24 ≤ 140737488355328 then (spec_l4DrawEvents.l0 l0_0 x0_0 x0_1 x0_5 x0_6 x0_7 x0_8 x0_9 x0_10 x0_12 x0_13 x0_14 x0_15 x0_16 x0_17 (IntKind.i64.wrap (x0_2 + 1)) j70.1 j70.2.1 (x0_11 ++ ([(⟨j70.2.2, j34.2.2.2.1, j34.2.2.2.2⟩ : S63)] : List S63)) t83.2.2.2.2.2.1 t83.2.2.2.2.2.2.1 t83.2.2.2.2.2.2.2.1 t83.2.2.2.2.2.2.2.2.1 t83.2.2.2.2.2.2.2.2.2.1 t83.2.2.2.2.2.2.2.2.2.2.1 t83.2.2.2.2.2.2.2.2.2.2.2) else none)))))) else (some (x0_3, x0_4, x0_11)))
 partial_fixpoint
def spec_l4DrawEvents.f (l0_0 : List Int) (a0_1 : Int) (a0_2 : Int) (a1_0 : Int) (a1_1 : Int) (a1_2 : Int) (a1_3 : Int) (a1_4 : Int) (a1_5 : Int) (a2 : Int) : Option ((List S63) × Int × Int) := (spec_l4Begin.f a1_0 a1_1 a1_2 a1_3 a1_4 a1_5 >>= fun t7 => (spec_l1Next.f l0_0 a0_1 a0_2 3 >>= fun t12 => (spec_l4DrawEvents.l0 l0_0 a2 t12.1 a1_0 a1_1 a1_2 a1_3 a1_4 a1_5 t7.1 t7.2.1 t7.2.2.1 t7.2.2.2.1 t7.2.2.2.2.1 t7.2.2.2.2.2.1 0 t12.2.1 t12.2.2 ([] : List S63) t7.2.2.2.2.2.2.1 t7.2.2.2.2.2.2.2.1 t7.2.2.2.2.2.2.2.2.1 t7.2.2.2.2.2.2.2.2.2.1 t7.2.2.2.2.2.2.2.2.2.2.1 t7.2.2.2.2.2.2.2.2.2.2.2.1 t7.2.2.2.2.2.2.2.2.2.2.2.2 >>= fun (y95 : (Int × Int × (List S63))) => (some (y95.2.2, y95.1, y95.2.1)))))
def spec_l4DrawEvents.l0_M (cs1 : List Cell) (o1 : Nat) (l0_0 : List Int) (hv1 : Vw c_u8 1 cs1 o1 l0_0) (x0_0 : Int) (x0_1 : Int) (x0_5 : Int) (x0_6 : Int) (x0_7 : Int) (x0_8 : Int) (x0_9 : Int) (x0_10 : Int) (x0_12 : Int) (x0_13 : Int) (x0_14 : Int) (x0_15 : Int) (x0_16 : Int) (x0_17 : Int) (x0_2 : Int) (x0_3 : Int) (x0_4 : Int) (x0_11 : (List S63)) (x0_18 : (List Int)) (x0_19 : Int) (x0_20 : Int) (x0_21 : Int) (x0_22 : Int) (x0_23 : Int) (x0_24 : Bool) (y : (Int × Int × (List S63))) : Prop := ∀ (K : AE → St → Prop), (K (.exit 0) ⟨[(7, .c (.ref (.tmp 13 0) [] 0 y.2.2.length))], [(.arg 0, ⟨.box, 0, [.ref (.arg 1) [] o1 l0_0.length, .sc (.int .i64 y.1), .sc (.int .u64 y.2.1)]⟩), (.arg 1, ⟨.fz, 1, cs1⟩), (.tmp 13 0, ⟨.lst, 3, encL c63 y.2.2⟩)], [], []⟩) → loopS Try.prog 85 (.ga C85_l0) K ⟨[(0, .c (.ptr (.arg 0) [] 0)), (2, .c (.sc (.int .i64 x0_0))), (4, .c (.ptr (.tmp 4 0) [] 0)), (7, .c (.ref (.tmp 13 0) [] 0 x0_11.length)), (8, .c (.ptr (.tmp 8 0) [] 0)), (9, .c (.sc (.int .i64 x0_1))), (10, .c (.sc (.int .i64 x0_2)))], [(.arg 0, ⟨.box, 0, [.ref (.arg 1) [] o1 l0_0.length, .sc (.int .i64 x0_3), .sc (.int .u64 x0_4)]⟩), (.arg 1, ⟨.fz, 1, cs1⟩), (.tmp 4 0, ⟨.box, 0, [.sc (.int .u32 x0_5), .sc (.int .i64 x0_6), .sc (.int .i64 x0_7), .sc (.int .i64 x0_8), .sc (.int .i64 x0_9), .sc (.int .i64 x0_10)]⟩), (.tmp 13 0, ⟨.lst, 3, encL c63 x0_11⟩), (.tmp 8 0, ⟨.box, 0, [.sc (.int .u32 x0_12), .sc (.int .i64 x0_13), .sc (.int .i64 x0_14), .sc (.int .i64 x0_15), .sc (.int .i64 x0_16), .sc (.int .i64 x0_17), .own 1 x0_18.length (encL c_i64 x0_18), .sc (.int .i64 x0_19), .sc (.int .i64 x0_20), .sc (.int .i64 x0_21), .sc (.int .i64 x0_22), .sc (.int .i64 x0_23), .sc (.bool x0_24)]⟩)], [], []⟩
theorem spec_l4DrawEvents.l0_walk (cs1 : List Cell) (o1 : Nat) (l0_0 : List Int) (hv1 : Vw c_u8 1 cs1 o1 l0_0) (x0_0 : Int) (x0_1 : Int) (x0_5 : Int) (x0_6 : Int) (x0_7 : Int) (x0_8 : Int) (x0_9 : Int) (x0_10 : Int) (x0_12 : Int) (x0_13 : Int) (x0_14 : Int) (x0_15 : Int) (x0_16 : Int) (x0_17 : Int) (x0_2 : Int) (x0_3 : Int) (x0_4 : Int) (x0_11 : (List S63)) (x0_18 : (List Int)) (x0_19 : Int) (x0_20 : Int) (x0_21 : Int) (x0_22 : Int) (x0_23 : Int) (x0_24 : Bool) (y : (Int × Int × (List S63))) (h : spec_l4DrawEvents.l0 l0_0 x0_0 x0_1 x0_5 x0_6 x0_7 x0_8 x0_9 x0_10 x0_12 x0_13 x0_14 x0_15 x0_16 x0_17 x0_2 x0_3 x0_4 x0_11 x0_18 x0_19 x0_20 x0_21 x0_22 x0_23 x0_24 = some y) : spec_l4DrawEvents.l0_M cs1 o1 l0_0 hv1 x0_0 x0_1 x0_5 x0_6 x0_7 x0_8 x0_9 x0_10 x0_12 x0_13 x0_14 x0_15 x0_16 x0_17 x0_2 x0_3 x0_4 x0_11 x0_18 x0_19 x0_20 x0_21 x0_22 x0_23 x0_24 y := by
 refine spec_l4DrawEvents.l0.partial_correctness l0_0 x0_0 x0_1 x0_5 x0_6 x0_7 x0_8 x0_9 x0_10 x0_12 x0_13 x0_14 x0_15 x0_16 x0_17 (motive := fun x0_2 x0_3 x0_4 x0_11 x0_18 x0_19 x0_20 x0_21 x0_22 x0_23 x0_24 y => spec_l4DrawEvents.l0_M cs1 o1 l0_0 hv1 x0_0 x0_1 x0_5 x0_6 x0_7 x0_8 x0_9 x0_10 x0_12 x0_13 x0_14 x0_15 x0_16 x0_17 x0_2 x0_3 x0_4 x0_11 x0_18 x0_19 x0_20 x0_21 x0_22 x0_23 x0_24 y) ?_ x0_2 x0_3 x0_4 x0_11 x0_18 x0_19 x0_20 x0_21 x0_22 x0_23 x0_24 y h
 clear h
 unfold spec_l4DrawEvents.l0_M
 intro rec ih x0_2 x0_3 x0_4 x0_11 x0_18 x0_19 x0_20 x0_21 x0_22 x0_23 x0_24 y h K hx0
 refine loop_unroll (ga_k fun G0 G0n G0r G0x => ?_)
 unfold C85_l0
 refine seq_k fun J18 hJ18 => ?_
 refine sr_k fun J19 hJ19 => ?_
 simp +decide only [Nat.reduceAdd, Nat.reduceMul, Int.reduceToNat, ak]
 refine hJ19 _ ?_
 refine cond_k (b := decide (x0_2 < x0_0)) rfl (fun c20 => ?_) (fun c20 => ?_)
 ·replace c20 := of_decide_eq_true c20; rw [if_pos c20] at h
  refine hJ18 _ ?_
  refine seq_k fun J21 hJ21 => ?_
  refine block_k fun B22 B22n B22x B22r B22j => ?_
  refine sr_k fun J23 hJ23 => ?_
  simp +decide only [Nat.reduceAdd, Nat.reduceMul, Int.reduceToNat, ak]
  obtain ⟨t24, h25, h⟩ := of_bind h
  refine cm [pI (.arg 0) .box, pI (.arg 1) .fz] (spec_l1Next.tri (cs1) o1 l0_0 hv1 x0_3 x0_4 100 _ h25) (fun hl25 => ?_)
  refine cs (mW [.ref (.arg 1) [] o1 l0_0.length, .sc (.int .i64 t24.2.1), .sc (.int .u64 t24.2.2)] (mF (mN ..))) ?_ (s4 := [(.arg 0, ⟨.box, 0, [.ref (.arg 1) [] o1 l0_0.length, .sc (.int .i64 t24.2.1), .sc (.int .u64 t24.2.2)]⟩), (.arg 1, ⟨.fz, 1, cs1⟩), (.tmp 4 0, ⟨.box, 0, [.sc (.int .u32 x0_5), .sc (.int .i64 x0_6), .sc (.int .i64 x0_7), .sc (.int .i64 x0_8), .sc (.int .i64 x0_9), .sc (.int .i64 x0_10)]⟩), (.tmp 13 0, ⟨.lst, 3, encL c63 x0_11⟩), (.tmp 8 0, ⟨.box, 0, [.sc (.int .u32 x0_12), .sc (.int .i64 x0_13), .sc (.int .i64 x0_14), .sc (.int .i64 x0_15), .sc (.int .i64 x0_16), .sc (.int .i64 x0_17), .own 1 x0_18.length (encL c_i64 x0_18), .sc (.int .i64 x0_19), .sc (.int .i64 x0_20), .sc (.int .i64 x0_21), .sc (.int .i64 x0_22), .sc (.int .i64 x0_23), .sc (.bool x0_24)]⟩)])
  simp +decide only [Nat.reduceAdd, Nat.reduceMul, Int.reduceToNat, ak]
  refine hJ23 _ ?_
  obtain ⟨j27, h28, hn⟩ := of_bind h
  refine seq_j (fun st => st = ⟨[(0, .c (.ptr (.arg 0) [] 0)), (2, .c (.sc (.int .i64 x0_0))), (4, .c (.ptr (.tmp 4 0) [] 0)), (7, .c (.ref (.tmp 13 0) [] 0 x0_11.length)), (8, .c (.ptr (.tmp 8 0) [] 0)), (9, .c (.sc (.int .i64 x0_1))), (10, .c (.sc (.int .i64 x0_2))), (11, .c (.sc (.int .i64 j27)))], [(.arg 0, ⟨.box, 0, [.ref (.arg 1) [] o1 l0_0.length, .sc (.int .i64 t24.2.1), .sc (.int .u64 t24.2.2)]⟩), (.arg 1, ⟨.fz, 1, cs1⟩), (.tmp 4 0, ⟨.box, 0, [.sc (.int .u32 x0_5), .sc (.int .i64 x0_6), .sc (.int .i64 x0_7), .sc (.int .i64 x0_8), .sc (.int .i64 x0_9), .sc (.int .i64 x0_10)]⟩), (.tmp 13 0, ⟨.lst, 3, encL c63 x0_11⟩), (.tmp 8 0, ⟨.box, 0, [.sc (.int .u32 x0_12), .sc (.int .i64 x0_13), .sc (.int .i64 x0_14), .sc (.int .i64 x0_15), .sc (.int .i64 x0_16), .sc (.int .i64 x0_17), .own 1 x0_18.length (encL c_i64 x0_18), .sc (.int .i64 x0_19), .sc (.int .i64 x0_20), .sc (.int .i64 x0_21), .sc (.int .i64 x0_22), .sc (.int .i64 x0_23), .sc (.bool x0_24)]⟩)], [], []⟩) (fun J29 hJ29 => ?_) ?_
  ·replace h := h28; clear hn
   refine ga_k fun G30 G30n G30r G30x => ?_
   refine sr_k fun J31 hJ31 => ?_
   simp +decide only [Nat.reduceAdd, Nat.reduceMul, Int.reduceToNat, ak]
   refine hJ31 _ ?_
   refine cond_k (b := decide (x0_1 = 1)) rfl (fun c32 => ?_) (fun c32 => ?_)
   ·replace c32 := of_decide_eq_true c32; rw [if_pos c32] at h
    refine reg_k ?_
    simp +decide only [Nat.reduceAdd, Nat.reduceMul, Int.reduceToNat, ak, ne_lit]
    obtain rfl := Option.some.inj h
    refine G30n _ _ (wk [0, 2, 4, 7, 8, 9, 10, 11] [pI (.arg 0) .box, pI (.arg 1) .fz, pI (.tmp 4 0) .box, pI (.tmp 13 0) .lst, pI (.tmp 8 0) .box]) (hJ29 _ rfl)
   ·replace c32 := of_decide_eq_false c32; rw [if_neg c32] at h
    obtain rfl := Option.some.inj h
    refine G30n _ _ (wk [0, 2, 4, 7, 8, 9, 10, 11] [pI (.arg 0) .box, pI (.arg 1) .fz, pI (.tmp 4 0) .box, pI (.tmp 13 0) .lst, pI (.tmp 8 0) .box]) (hJ29 _ rfl)
  ·replace h := hn; clear hn h28
   rintro _ rfl
   refine sr_k fun J33 hJ33 => ?_
   simp +decide only [Nat.reduceAdd, Nat.reduceMul, Int.reduceToNat, ak]
   refine hJ33 _ ?_
   obtain ⟨j34, h35, hn⟩ := of_bind h
   refine seq_j (fun st => st = ⟨[(0, .c (.ptr (.arg 0) [] 0)), (2, .c (.sc (.int .i64 x0_0))), (4, .c (.ptr (.tmp 4 0) [] 0)), (7, .c (.ref (.tmp 13 0) [] 0 x0_11.length)), (8, .c (.ptr (.tmp 8 0) [] 0)), (9, .c (.sc (.int .i64 x0_1))), (10, .c (.sc (.int .i64 x0_2))), (12, .c (.ptr (.tmp 12 0) [] 0))], [(.arg 0, ⟨.box, 0, [.ref (.arg 1) [] o1 l0_0.length, .sc (.int .i64 j34.1), .sc (.int .u64 j34.2.1)]⟩), (.arg 1, ⟨.fz, 1, cs1⟩), (.tmp 4 0, ⟨.box, 0, [.sc (.int .u32 x0_5), .sc (.int .i64 x0_6), .sc (.int .i64 x0_7), .sc (.int .i64 x0_8), .sc (.int .i64 x0_9), .sc (.int .i64 x0_10)]⟩), (.tmp 13 0, ⟨.lst, 3, encL c63 x0_11⟩), (.tmp 8 0, ⟨.box, 0, [.sc (.int .u32 x0_12), .sc (.int .i64 x0_13), .sc (.int .i64 x0_14), .sc (.int .i64 x0_15), .sc (.int .i64 x0_16), .sc (.int .i64 x0_17), .own 1 x0_18.length (encL c_i64 x0_18), .sc (.int .i64 x0_19), .sc (.int .i64 x0_20), .sc (.int .i64 x0_21), .sc (.int .i64 x0_22), .sc (.int .i64 x0_23), .sc (.bool x0_24)]⟩), (.tmp 12 0, ⟨.box, 0, [.sc (.int .i64 j34.2.2.1), .sc (.int .i64 j34.2.2.2.1), .sc (.int .u32 j34.2.2.2.2)]⟩)], [], []⟩) (fun J36 hJ36 => ?_) ?_
   ·replace h := h35; clear hn
    refine ga_k fun G37 G37n G37r G37x => ?_
    obtain ⟨j38, h39, hn⟩ := of_bind h
    refine seq_j (fun st => st = ⟨[(0, .c (.ptr (.arg 0) [] 0)), (2, .c (.sc (.int .i64 x0_0))), (4, .c (.ptr (.tmp 4 0) [] 0)), (7, .c (.ref (.tmp 13 0) [] 0 x0_11.length)), (8, .c (.ptr (.tmp 8 0) [] 0)), (9, .c (.sc (.int .i64 x0_1))), (10, .c (.sc (.int .i64 x0_2))), (11, .c (.sc (.int .i64 j27))), (12, .c (.ptr (.tmp 12 0) [] 0)), (39, .c (.sc (.bool j38)))], [(.arg 0, ⟨.box, 0, [.ref (.arg 1) [] o1 l0_0.length, .sc (.int .i64 t24.2.1), .sc (.int .u64 t24.2.2)]⟩), (.arg 1, ⟨.fz, 1, cs1⟩), (.tmp 4 0, ⟨.box, 0, [.sc (.int .u32 x0_5), .sc (.int .i64 x0_6), .sc (.int .i64 x0_7), .sc (.int .i64 x0_8), .sc (.int .i64 x0_9), .sc (.int .i64 x0_10)]⟩), (.tmp 13 0, ⟨.lst, 3, encL c63 x0_11⟩), (.tmp 8 0, ⟨.box, 0, [.sc (.int .u32 x0_12), .sc (.int .i64 x0_13), .sc (.int .i64 x0_14), .sc (.int .i64 x0_15), .sc (.int .i64 x0_16), .sc (.int .i64 x0_17), .own 1 x0_18.length (encL c_i64 x0_18), .sc (.int .i64 x0_19), .sc (.int .i64 x0_20), .sc (.int .i64 x0_21), .sc (.int .i64 x0_22), .sc (.int .i64 x0_23), .sc (.bool x0_24)]⟩), (.tmp 12 0, ⟨.box, 0, [.sc (.int .i64 1), .sc (.int .i64 (IntKind.i64.wrap (x0_2 + 10))), .sc (.int .u32 0)]⟩)], [], []⟩) (fun J40 hJ40 => ?_) ?_
    ·replace h := h39; clear hn
     refine ga_k fun G41 G41n G41r G41x => ?_
     refine reg_k ?_
     simp +decide only [Nat.reduceAdd, Nat.reduceMul, Int.reduceToNat, ak]
     by_cases c42 : j27 ≥ 45
     ·rw [if_pos c42] at h
      have e43 : decide (j27 ≥ 45) = true := decide_eq_true c42
      simp +decide only [Nat.reduceAdd, Nat.reduceMul, Int.reduceToNat, ak, e43]
      obtain rfl := Option.some.inj h
      refine G41n _ _ (wj [0, 2, 4, 7, 8, 9, 10, 11, 12, 39] [pI (.arg 0) .box, pI (.arg 1) .fz, pI (.tmp 4 0) .box, pI (.tmp 13 0) .lst, pI (.tmp 8 0) .box, pI (.tmp 12 0) .box]) (hJ40 _ rfl)
     ·rw [if_neg c42] at h
      have e44 : decide (j27 ≥ 45) = false := decide_eq_false c42
      simp +decide only [Nat.reduceAdd, Nat.reduceMul, Int.reduceToNat, ak, e44]
      obtain rfl := Option.some.inj h
      refine G41n _ _ (wj [0, 2, 4, 7, 8, 9, 10, 11, 12, 39] [pI (.arg 0) .box, pI (.arg 1) .fz, pI (.tmp 4 0) .box, pI (.tmp 13 0) .lst, pI (.tmp 8 0) .box, pI (.tmp 12 0) .box]) (hJ40 _ rfl)
    ·replace h := hn; clear hn h39
     rintro _ rfl
     refine cond_k (b := j38) rfl (fun c45 => ?_) (fun c45 => ?_)
     ·rw [if_pos c45] at h
      refine sd_k fun J46 hJ46 => ?_
      simp +decide only [Nat.reduceAdd, Nat.reduceMul, Int.reduceToNat, ak]
      obtain ⟨t47, h48, h⟩ := of_bind h
      obtain ⟨t50, h51, h⟩ := of_bind h
      refine alt_e ?_
      ·simp +decide only [Nat.reduceAdd, Nat.reduceMul, Int.reduceToNat, ak]
       refine cm [pN (.arg 0) (.tmp 8 0) .box] (spec_l4Out.tri x0_12 x0_13 x0_14 x0_15 x0_16 x0_17 x0_18 x0_19 x0_20 x0_21 x0_22 x0_23 x0_24 _ h48) (fun hl53 => ?_)
       refine cs (mW [.sc (.int .u32 x0_12), .sc (.int .i64 x0_13), .sc (.int .i64 x0_14), .sc (.int .i64 x0_15), .sc (.int .i64 x0_16), .sc (.int .i64 x0_17), .own 1 x0_18.length (encL c_i64 x0_18), .sc (.int .i64 x0_19), .sc (.int .i64 x0_20), .sc (.int .i64 x0_21), .sc (.int .i64 x0_22), .sc (.int .i64 x0_23), .sc (.bool x0_24)] (mN ..)) ?_ (s4 := [(.arg 0, ⟨.box, 0, [.ref (.arg 1) [] o1 l0_0.length, .sc (.int .i64 t24.2.1), .sc (.int .u64 t24.2.2)]⟩), (.arg 1, ⟨.fz, 1, cs1⟩), (.tmp 4 0, ⟨.box, 0, [.sc (.int .u32 x0_5), .sc (.int .i64 x0_6), .sc (.int .i64 x0_7), .sc (.int .i64 x0_8), .sc (.int .i64 x0_9), .sc (.int .i64 x0_10)]⟩), (.tmp 13 0, ⟨.lst, 3, encL c63 x0_11⟩), (.tmp 8 0, ⟨.box, 0, [.sc (.int .u32 x0_12), .sc (.int .i64 x0_13), .sc (.int .i64 x0_14), .sc (.int .i64 x0_15), .sc (.int .i64 x0_16), .sc (.int .i64 x0_17), .own 1 x0_18.length (encL c_i64 x0_18), .sc (.int .i64 x0_19), .sc (.int .i64 x0_20), .sc (.int .i64 x0_21), .sc (.int .i64 x0_22), .sc (.int .i64 x0_23), .sc (.bool x0_24)]⟩), (.tmp 12 0, ⟨.box, 0, [.sc (.int .i64 1), .sc (.int .i64 (IntKind.i64.wrap (x0_2 + 10))), .sc (.int .u32 0)]⟩)])
       simp +decide only [Nat.reduceAdd, Nat.reduceMul, Int.reduceToNat, ak]
       refine alt_e ?_
       ·simp +decide only [Nat.reduceAdd, Nat.reduceMul, Int.reduceToNat, ak]
        refine cm [pI (.arg 0) .box, pI (.arg 1) .fz] (spec_l1Next.tri (cs1) o1 l0_0 hv1 t24.2.1 t24.2.2 (IntKind.i64.wrap (t47 + 1)) _ h51) (fun hl55 => ?_)
        refine cs (mW [.ref (.arg 1) [] o1 l0_0.length, .sc (.int .i64 t50.2.1), .sc (.int .u64 t50.2.2)] (mF (mN ..))) ?_ (s4 := [(.arg 0, ⟨.box, 0, [.ref (.arg 1) [] o1 l0_0.length, .sc (.int .i64 t50.2.1), .sc (.int .u64 t50.2.2)]⟩), (.arg 1, ⟨.fz, 1, cs1⟩), (.tmp 4 0, ⟨.box, 0, [.sc (.int .u32 x0_5), .sc (.int .i64 x0_6), .sc (.int .i64 x0_7), .sc (.int .i64 x0_8), .sc (.int .i64 x0_9), .sc (.int .i64 x0_10)]⟩), (.tmp 13 0, ⟨.lst, 3, encL c63 x0_11⟩), (.tmp 8 0, ⟨.box, 0, [.sc (.int .u32 x0_12), .sc (.int .i64 x0_13), .sc (.int .i64 x0_14), .sc (.int .i64 x0_15), .sc (.int .i64 x0_16), .sc (.int .i64 x0_17), .own 1 x0_18.length (encL c_i64 x0_18), .sc (.int .i64 x0_19), .sc (.int .i64 x0_20), .sc (.int .i64 x0_21), .sc (.int .i64 x0_22), .sc (.int .i64 x0_23), .sc (.bool x0_24)]⟩), (.tmp 12 0, ⟨.box, 0, [.sc (.int .i64 1), .sc (.int .i64 (IntKind.i64.wrap (x0_2 + 10))), .sc (.int .u32 0)]⟩)])
        simp +decide only [Nat.reduceAdd, Nat.reduceMul, Int.reduceToNat, ak]
        refine alt_e ?_
        ·simp +decide only [Nat.reduceAdd, Nat.reduceMul, Int.reduceToNat, ak]
         refine hJ46 _ ?_
         refine sr_k fun J57 hJ57 => ?_
         simp +decide only [Nat.reduceAdd, Nat.reduceMul, Int.reduceToNat, ak]
         obtain ⟨t58, h59, h⟩ := of_bind h
         refine cm [pI (.arg 0) .box, pI (.arg 1) .fz] (spec_l1Next.tri (cs1) o1 l0_0 hv1 t50.2.1 t50.2.2 4 _ h59) (fun hl59 => ?_)
         refine cs (mW [.ref (.arg 1) [] o1 l0_0.length, .sc (.int .i64 t58.2.1), .sc (.int .u64 t58.2.2)] (mF (mN ..))) ?_ (s4 := [(.arg 0, ⟨.box, 0, [.ref (.arg 1) [] o1 l0_0.length, .sc (.int .i64 t58.2.1), .sc (.int .u64 t58.2.2)]⟩), (.arg 1, ⟨.fz, 1, cs1⟩), (.tmp 4 0, ⟨.box, 0, [.sc (.int .u32 x0_5), .sc (.int .i64 x0_6), .sc (.int .i64 x0_7), .sc (.int .i64 x0_8), .sc (.int .i64 x0_9), .sc (.int .i64 x0_10)]⟩), (.tmp 13 0, ⟨.lst, 3, encL c63 x0_11⟩), (.tmp 8 0, ⟨.box, 0, [.sc (.int .u32 x0_12), .sc (.int .i64 x0_13), .sc (.int .i64 x0_14), .sc (.int .i64 x0_15), .sc (.int .i64 x0_16), .sc (.int .i64 x0_17), .own 1 x0_18.length (encL c_i64 x0_18), .sc (.int .i64 x0_19), .sc (.int .i64 x0_20), .sc (.int .i64 x0_21), .sc (.int .i64 x0_22), .sc (.int .i64 x0_23), .sc (.bool x0_24)]⟩), (.tmp 12 0, ⟨.box, 0, [.sc (.int .i64 2), .sc (.int .i64 0), .sc (.int .u32 (IntKind.u32.wrap ((IntKind.u32.wrap (x0_5 + (IntKind.u32.wrap x0_19))) + (IntKind.u32.wrap t50.1))))]⟩)])
         simp +decide only [Nat.reduceAdd, Nat.reduceMul, Int.reduceToNat, ak]
         refine hJ57 _ ?_
         refine cond_k (b := decide (t58.1 = 0)) rfl (fun c61 => ?_) (fun c61 => ?_)
         ·replace c61 := of_decide_eq_true c61; rw [if_pos c61] at h
          refine regD_k ?_
          simp +decide only [Nat.reduceAdd, Nat.reduceMul, Int.reduceToNat, ak]
          obtain ⟨t62, h63, h⟩ := of_bind h
          refine alt_e ?_
          ·simp +decide only [Nat.reduceAdd, Nat.reduceMul, Int.reduceToNat, ak]
           refine cm [pI (.arg 0) .box, pI (.arg 1) .fz] (spec_l1Next.tri (cs1) o1 l0_0 hv1 t58.2.1 t58.2.2 8 _ h63) (fun hl64 => ?_)
           refine cs (mW [.ref (.arg 1) [] o1 l0_0.length, .sc (.int .i64 t62.2.1), .sc (.int .u64 t62.2.2)] (mF (mN ..))) ?_ (s4 := [(.arg 0, ⟨.box, 0, [.ref (.arg 1) [] o1 l0_0.length, .sc (.int .i64 t62.2.1), .sc (.int .u64 t62.2.2)]⟩), (.arg 1, ⟨.fz, 1, cs1⟩), (.tmp 4 0, ⟨.box, 0, [.sc (.int .u32 x0_5), .sc (.int .i64 x0_6), .sc (.int .i64 x0_7), .sc (.int .i64 x0_8), .sc (.int .i64 x0_9), .sc (.int .i64 x0_10)]⟩), (.tmp 13 0, ⟨.lst, 3, encL c63 x0_11⟩), (.tmp 8 0, ⟨.box, 0, [.sc (.int .u32 x0_12), .sc (.int .i64 x0_13), .sc (.int .i64 x0_14), .sc (.int .i64 x0_15), .sc (.int .i64 x0_16), .sc (.int .i64 x0_17), .own 1 x0_18.length (encL c_i64 x0_18), .sc (.int .i64 x0_19), .sc (.int .i64 x0_20), .sc (.int .i64 x0_21), .sc (.int .i64 x0_22), .sc (.int .i64 x0_23), .sc (.bool x0_24)]⟩), (.tmp 12 0, ⟨.box, 0, [.sc (.int .i64 2), .sc (.int .i64 0), .sc (.int .u32 (IntKind.u32.wrap ((IntKind.u32.wrap (x0_5 + (IntKind.u32.wrap x0_19))) + (IntKind.u32.wrap t50.1))))]⟩)])
           simp +decide only [Nat.reduceAdd, Nat.reduceMul, Int.reduceToNat, ak]
           refine alt_e ?_
           ·simp +decide only [Nat.reduceAdd, Nat.reduceMul, Int.reduceToNat, ak]
            obtain rfl := Option.some.inj h
            refine G37n _ _ (wk [0, 2, 4, 7, 8, 9, 10, 12] [pI (.arg 0) .box, pI (.arg 1) .fz, pI (.tmp 4 0) .box, pI (.tmp 13 0) .lst, pI (.tmp 8 0) .box, pI (.tmp 12 0) .box]) (hJ36 _ rfl)
         ·replace c61 := of_decide_eq_false c61; rw [if_neg c61] at h
          obtain rfl := Option.some.inj h
          refine G37n _ _ (wk [0, 2, 4, 7, 8, 9, 10, 12] [pI (.arg 0) .box, pI (.arg 1) .fz, pI (.tmp 4 0) .box, pI (.tmp 13 0) .lst, pI (.tmp 8 0) .box, pI (.tmp 12 0) .box]) (hJ36 _ rfl)
     ·rw [if_neg (Bool.eq_false_iff.1 c45)] at h
      refine sr_k fun J66 hJ66 => ?_
      simp +decide only [Nat.reduceAdd, Nat.reduceMul, Int.reduceToNat, ak]
      refine hJ66 _ ?_
      refine cond_k (b := decide (j27 ≥ 60)) rfl (fun c69 => ?_) (fun c69 => ?_)
      ·replace c69 := of_decide_eq_true c69; rw [if_pos c69] at h
       refine reg_k ?_
       simp +decide only [Nat.reduceAdd, Nat.reduceMul, Int.reduceToNat, ak]
       obtain rfl := Option.some.inj h
       refine G37n _ _ (wk [0, 2, 4, 7, 8, 9, 10, 12] [pI (.arg 0) .box, pI (.arg 1) .fz, pI (.tmp 4 0) .box, pI (.tmp 13 0) .lst, pI (.tmp 8 0) .box, pI (.tmp 12 0) .box]) (hJ36 _ rfl)
      ·replace c69 := of_decide_eq_false c69; rw [if_neg c69] at h
       obtain rfl := Option.some.inj h
       refine G37n _ _ (wk [0, 2, 4, 7, 8, 9, 10, 12] [pI (.arg 0) .box, pI (.arg 1) .fz, pI (.tmp 4 0) .box, pI (.tmp 13 0) .lst, pI (.tmp 8 0) .box, pI (.tmp 12 0) .box]) (hJ36 _ rfl)
   ·replace h := hn; clear hn h35
    rintro _ rfl
    obtain ⟨j70, h71, hn⟩ := of_bind h
    refine seq_j (fun st => st = ⟨[(0, .c (.ptr (.arg 0) [] 0)), (2, .c (.sc (.int .i64 x0_0))), (4, .c (.ptr (.tmp 4 0) [] 0)), (7, .c (.ref (.tmp 13 0) [] 0 x0_11.length)), (8, .c (.ptr (.tmp 8 0) [] 0)), (9, .c (.sc (.int .i64 x0_1))), (10, .c (.sc (.int .i64 x0_2))), (12, .c (.ptr (.tmp 12 0) [] 0))], [(.arg 0, ⟨.box, 0, [.ref (.arg 1) [] o1 l0_0.length, .sc (.int .i64 j70.1), .sc (.int .u64 j70.2.1)]⟩), (.arg 1, ⟨.fz, 1, cs1⟩), (.tmp 4 0, ⟨.box, 0, [.sc (.int .u32 x0_5), .sc (.int .i64 x0_6), .sc (.int .i64 x0_7), .sc (.int .i64 x0_8), .sc (.int .i64 x0_9), .sc (.int .i64 x0_10)]⟩), (.tmp 13 0, ⟨.lst, 3, encL c63 x0_11⟩), (.tmp 8 0, ⟨.box, 0, [.sc (.int .u32 x0_12), .sc (.int .i64 x0_13), .sc (.int .i64 x0_14), .sc (.int .i64 x0_15), .sc (.int .i64 x0_16), .sc (.int .i64 x0_17), .own 1 x0_18.length (encL c_i64 x0_18), .sc (.int .i64 x0_19), .sc (.int .i64 x0_20), .sc (.int .i64 x0_21), .sc (.int .i64 x0_22), .sc (.int .i64 x0_23), .sc (.bool x0_24)]⟩), (.tmp 12 0, ⟨.box, 0, [.sc (.int .i64 j70.2.2), .sc (.int .i64 j34.2.2.2.1), .sc (.int .u32 j34.2.2.2.2)]⟩)], [], []⟩) (fun J72 hJ72 => ?_) ?_
    ·replace h := h71; clear hn
     refine ga_k fun G73 G73n G73r G73x => ?_
     refine sr_k fun J74 hJ74 => ?_
     simp +decide only [Nat.reduceAdd, Nat.reduceMul, Int.reduceToNat, ak]
     obtain ⟨t75, h76, h⟩ := of_bind h
     refine cm [pI (.arg 0) .box, pI (.arg 1) .fz] (spec_l1Next.tri (cs1) o1 l0_0 hv1 j34.1 j34.2.1 60 _ h76) (fun hl76 => ?_)
     refine cs (mW [.ref (.arg 1) [] o1 l0_0.length, .sc (.int .i64 t75.2.1), .sc (.int .u64 t75.2.2)] (mF (mN ..))) ?_ (s4 := [(.arg 0, ⟨.box, 0, [.ref (.arg 1) [] o1 l0_0.length, .sc (.int .i64 t75.2.1), .sc (.int .u64 t75.2.2)]⟩), (.arg 1, ⟨.fz, 1, cs1⟩), (.tmp 4 0, ⟨.box, 0, [.sc (.int .u32 x0_5), .sc (.int .i64 x0_6), .sc (.int .i64 x0_7), .sc (.int .i64 x0_8), .sc (.int .i64 x0_9), .sc (.int .i64 x0_10)]⟩), (.tmp 13 0, ⟨.lst, 3, encL c63 x0_11⟩), (.tmp 8 0, ⟨.box, 0, [.sc (.int .u32 x0_12), .sc (.int .i64 x0_13), .sc (.int .i64 x0_14), .sc (.int .i64 x0_15), .sc (.int .i64 x0_16), .sc (.int .i64 x0_17), .own 1 x0_18.length (encL c_i64 x0_18), .sc (.int .i64 x0_19), .sc (.int .i64 x0_20), .sc (.int .i64 x0_21), .sc (.int .i64 x0_22), .sc (.int .i64 x0_23), .sc (.bool x0_24)]⟩), (.tmp 12 0, ⟨.box, 0, [.sc (.int .i64 j34.2.2.1), .sc (.int .i64 j34.2.2.2.1), .sc (.int .u32 j34.2.2.2.2)]⟩)])
     simp +decide only [Nat.reduceAdd, Nat.reduceMul, Int.reduceToNat, ak]
     refine hJ74 _ ?_
     refine cond_k (b := decide (t75.1 = 0)) rfl (fun c78 => ?_) (fun c78 => ?_)
     ·replace c78 := of_decide_eq_true c78; rw [if_pos c78] at h
      refine reg_k ?_
      simp +decide only [Nat.reduceAdd, Nat.reduceMul, Int.reduceToNat, ak]
      obtain ⟨t79, h80, h⟩ := of_bind h
      refine cm [pI (.arg 0) .box, pI (.arg 1) .fz] (spec_l1Next.tri (cs1) o1 l0_0 hv1 t75.2.1 t75.2.2 2 _ h80) (fun hl80 => ?_)
      refine cs (mW [.ref (.arg 1) [] o1 l0_0.length, .sc (.int .i64 t79.2.1), .sc (.int .u64 t79.2.2)] (mF (mN ..))) ?_ (s4 := [(.arg 0, ⟨.box, 0, [.ref (.arg 1) [] o1 l0_0.length, .sc (.int .i64 t79.2.1), .sc (.int .u64 t79.2.2)]⟩), (.arg 1, ⟨.fz, 1, cs1⟩), (.tmp 4 0, ⟨.box, 0, [.sc (.int .u32 x0_5), .sc (.int .i64 x0_6), .sc (.int .i64 x0_7), .sc (.int .i64 x0_8), .sc (.int .i64 x0_9), .sc (.int .i64 x0_10)]⟩), (.tmp 13 0, ⟨.lst, 3, encL c63 x0_11⟩), (.tmp 8 0, ⟨.box, 0, [.sc (.int .u32 x0_12), .sc (.int .i64 x0_13), .sc (.int .i64 x0_14), .sc (.int .i64 x0_15), .sc (.int .i64 x0_16), .sc (.int .i64 x0_17), .own 1 x0_18.length (encL c_i64 x0_18), .sc (.int .i64 x0_19), .sc (.int .i64 x0_20), .sc (.int .i64 x0_21), .sc (.int .i64 x0_22), .sc (.int .i64 x0_23), .sc (.bool x0_24)]⟩), (.tmp 12 0, ⟨.box, 0, [.sc (.int .i64 j34.2.2.1), .sc (.int .i64 j34.2.2.2.1), .sc (.int .u32 j34.2.2.2.2)]⟩)])
      simp +decide only [Nat.reduceAdd, Nat.reduceMul, Int.reduceToNat, ak]
      obtain rfl := Option.some.inj h
      refine G73n _ _ (wk [0, 2, 4, 7, 8, 9, 10, 12] [pI (.arg 0) .box, pI (.arg 1) .fz, pI (.tmp 4 0) .box, pI (.tmp 13 0) .lst, pI (.tmp 8 0) .box, pI (.tmp 12 0) .box]) (hJ72 _ rfl)
     ·replace c78 := of_decide_eq_false c78; rw [if_neg c78] at h
      obtain rfl := Option.some.inj h
      refine G73n _ _ (wk [0, 2, 4, 7, 8, 9, 10, 12] [pI (.arg 0) .box, pI (.arg 1) .fz, pI (.tmp 4 0) .box, pI (.tmp 13 0) .lst, pI (.tmp 8 0) .box, pI (.tmp 12 0) .box]) (hJ72 _ rfl)
    ·replace h := hn; clear hn h71
     rintro _ rfl
     refine sr_k fun J82 hJ82 => ?_
     simp +decide only [Nat.reduceAdd, Nat.reduceMul, Int.reduceToNat, ak]
     obtain ⟨t83, h84, h⟩ := of_bind h
     refine cm [pN (.arg 0) (.tmp 8 0) .box] (spec_l4Step.tri x0_12 x0_13 x0_14 x0_15 x0_16 x0_17 x0_18 x0_19 x0_20 x0_21 x0_22 x0_23 x0_24 j70.2.2 j34.2.2.2.1 j34.2.2.2.2 _ h84) (fun hl84 => ?_)
     refine call_st (s2 := [(.arg 0, ⟨.box, 0, [.ref (.arg 1) [] o1 l0_0.length, .sc (.int .i64 j70.1), .sc (.int .u64 j70.2.1)]⟩), (.arg 1, ⟨.fz, 1, cs1⟩), (.tmp 4 0, ⟨.box, 0, [.sc (.int .u32 x0_5), .sc (.int .i64 x0_6), .sc (.int .i64 x0_7), .sc (.int .i64 x0_8), .sc (.int .i64 x0_9), .sc (.int .i64 x0_10)]⟩), (.tmp 13 0, ⟨.lst, 3, encL c63 x0_11⟩), (.tmp 8 0, ⟨.box, 0, [.sc (.int .u32 x0_12), .sc (.int .i64 x0_13), .sc (.int .i64 x0_14), .sc (.int .i64 x0_15), .sc (.int .i64 x0_16), .sc (.int .i64 x0_17), .own 1 x0_18.length (encL c_i64 x0_18), .sc (.int .i64 x0_19), .sc (.int .i64 x0_20), .sc (.int .i64 x0_21), .sc (.int .i64 x0_22), .sc (.int .i64 x0_23), .sc (.bool x0_24)]⟩), (.tmp 12 0, ⟨.box, 0, [.sc (.int .i64 j70.2.2), .sc (.int .i64 j34.2.2.2.1), .sc (.int .u32 j34.2.2.2.2)]⟩)]) (s4 := [(.arg 0, ⟨.box, 0, [.ref (.arg 1) [] o1 l0_0.length, .sc (.int .i64 j70.1), .sc (.int .u64 j70.2.1)]⟩), (.arg 1, ⟨.fz, 1, cs1⟩), (.tmp 4 0, ⟨.box, 0, [.sc (.int .u32 x0_5), .sc (.int .i64 x0_6), .sc (.int .i64 x0_7), .sc (.int .i64 x0_8), .sc (.int .i64 x0_9), .sc (.int .i64 x0_10)]⟩), (.tmp 13 0, ⟨.lst, 3, encL c63 x0_11⟩), (.tmp 8 0, ⟨.box, 0, [.sc (.int .u32 x0_12), .sc (.int .i64 x0_13), .sc (.int .i64 x0_14), .sc (.int .i64 x0_15), .sc (.int .i64 x0_16), .sc (.int .i64 x0_17), .own 1 t83.2.2.2.2.2.1.length (encL c_i64 t83.2.2.2.2.2.1), .sc (.int .i64 t83.2.2.2.2.2.2.1), .sc (.int .i64 t83.2.2.2.2.2.2.2.1), .sc (.int .i64 t83.2.2.2.2.2.2.2.2.1), .sc (.int .i64 t83.2.2.2.2.2.2.2.2.2.1), .sc (.int .i64 t83.2.2.2.2.2.2.2.2.2.2.1), .sc (.bool t83.2.2.2.2.2.2.2.2.2.2.2)]⟩), (.tmp 12 0, ⟨.box, 0, [.sc (.int .i64 j70.2.2), .sc (.int .i64 j34.2.2.2.1), .sc (.int .u32 j34.2.2.2.2)]⟩), (.tmp 79 1, ⟨.lst, 1, encL c_i64 t83.2.2.1⟩), (.tmp 79 0, ⟨.lst, 3, encL c68 t83.2.1⟩)]) (t' := [(0, .c (.ptr (.arg 0) [] 0)), (2, .c (.sc (.int .i64 x0_0))), (4, .c (.ptr (.tmp 4 0) [] 0)), (7, .c (.ref (.tmp 13 0) [] 0 x0_11.length)), (8, .c (.ptr (.tmp 8 0) [] 0)), (9, .c (.sc (.int .i64 x0_1))), (10, .c (.sc (.int .i64 x0_2))), (12, .c (.ptr (.tmp 12 0) [] 0)), (78, .g [.sc (.int .i64 j70.2.2), .sc (.int .i64 j34.2.2.2.1), .sc (.int .u32 j34.2.2.2.2)])]) (m1' := []) (m2' := []) (v' := .g [.sc (.int .i64 t83.1), .ref (.tmp 79 0) [] 0 t83.2.1.length, .ref (.tmp 79 1) [] 0 t83.2.2.1.length, .sc (.int .i64 t83.2.2.2.1), .sc (.int .i64 t83.2.2.2.2.1)]) (by first | rfl | simp only [reduceCtorEq, Nat.reduceEqDiff, ak, akF, List.contains_nil, List.contains_cons, Nat.reduceBEq]) (mrgL_whole (new' := [.sc (.int .u32 x0_12), .sc (.int .i64 x0_13), .sc (.int .i64 x0_14), .sc (.int .i64 x0_15), .sc (.int .i64 x0_16), .sc (.int .i64 x0_17), .own 1 t83.2.2.2.2.2.1.length (encL c_i64 t83.2.2.2.2.2.1), .sc (.int .i64 t83.2.2.2.2.2.2.1), .sc (.int .i64 t83.2.2.2.2.2.2.2.1), .sc (.int .i64 t83.2.2.2.2.2.2.2.2.1), .sc (.int .i64 t83.2.2.2.2.2.2.2.2.2.1), .sc (.int .i64 t83.2.2.2.2.2.2.2.2.2.2.1), .sc (.bool t83.2.2.2.2.2.2.2.2.2.2.2)]) (mrgL_nil' _ _ _) rfl (by rfl) (.inl ⟨rfl, by first | rfl | simp only [reduceCtorEq, Nat.reduceEqDiff, ak, akF, Nat.zero_add, List.append_nil]⟩)) (by rfl) (by first | rfl | simp only [reduceCtorEq, Nat.reduceEqDiff, ak, akF, List.contains_nil, List.contains_cons, Nat.reduceBEq]) (by rfl) (by rfl) (by first | rfl | simp only [reduceCtorEq, Nat.reduceEqDiff, ak, akF, Nat.zero_add, List.append_nil]) ?_
     simp +decide only [Nat.reduceAdd, Nat.reduceMul, Int.reduceToNat, ak]
     refine hJ82 _ ?_
     refine reg_k ?_
     have g86 : (List.replicate 1 ([.int .i64 0, .int .i64 0, .int .u32 0] : List Value)).flatten = [.int .i64 0, .int .i64 0, .int .u32 0] := rfl
     have g87 : (⟨.lst, 3, [.sc (.int .i64 j70.2.2), .sc (.int .i64 j34.2.2.2.1), .sc (.int .u32 j34.2.2.2.2)]⟩ : Root) = ⟨.lst, 3, encL c63 ([(⟨j70.2.2, j34.2.2.2.1, j34.2.2.2.2⟩ : S63)] : List S63)⟩ := rfl
     have g88 : ([(⟨j70.2.2, j34.2.2.2.1, j34.2.2.2.2⟩ : S63)] : List S63).length = 1 := rfl
     have g89 : (encL c63 ([(⟨j70.2.2, j34.2.2.2.1, j34.2.2.2.2⟩ : S63)] : List S63)).length = 1 * 3 := by simp [encL_length c63_w]
     have g90 : (encL c63 ([(⟨j70.2.2, j34.2.2.2.1, j34.2.2.2.2⟩ : S63)] : List S63)).all nd = true := rfl
     obtain ⟨b91, h⟩ := of_guard h
     have g92 : appLim x0_11.length 1 24 := ⟨b91, by have := b91; omega⟩
     have g93 : (encL c63 x0_11).length = x0_11.length * 3 := by simp [encL_length c63_w]
     have g94 : encL c63 x0_11 ++ encL c63 ([(⟨j70.2.2, j34.2.2.2.1, j34.2.2.2.2⟩ : S63)] : List S63) = encL c63 (x0_11 ++ ([(⟨j70.2.2, j34.2.2.2.1, j34.2.2.2.2⟩ : S63)] : List S63)) := (encL_append _ _).symm
     simp +decide only [Nat.reduceAdd, Nat.reduceMul, Int.reduceToNat, ak, g86, g87, g88, g89, g90, g92, g93, g94]
     refine B22n _ ?_
     refine hJ21 _ ?_
     refine reg_k ?_
     simp +decide only [Nat.reduceAdd, Nat.reduceMul, Int.reduceToNat, ak]
     refine G0n _ _ (wj [0, 2, 4, 7, 8, 9, 10] [pI (.arg 0) .box, pI (.arg 1) .fz, pI (.tmp 4 0) .box, pI (.tmp 13 0) .lst, pI (.tmp 8 0) .box]) (ih _ _ _ _ _ _ _ _ _ _ _ _ h K hx0)
 ·replace c20 := of_decide_eq_false c20; rw [if_neg c20] at h
  obtain rfl := Option.some.inj h
  refine gh_k (wk [7] [pI (.arg 0) .box, pI (.arg 1) .fz, pI (.tmp 13 0) .lst]) ?_
  refine G0x _ _ ?_
  exact hx0
theorem spec_l4DrawEvents.tri (cs1 : List Cell) (o1 : Nat) (l0_0 : List Int) (hv1 : Vw c_u8 1 cs1 o1 l0_0) (a0_1 : Int) (a0_2 : Int) (a1_0 : Int) (a1_1 : Int) (a1_2 : Int) (a1_3 : Int) (a1_4 : Int) (a1_5 : Int) (a2 : Int) (r : (List S63) × Int × Int) (h : spec_l4DrawEvents.f l0_0 a0_1 a0_2 a1_0 a1_1 a1_2 a1_3 a1_4 a1_5 a2 = some r) : Tri Try.prog 85 [.c (.ptr (.arg 0) [] 0), .g [.sc (.int .u32 a1_0), .sc (.int .i64 a1_1), .sc (.int .i64 a1_2), .sc (.int .i64 a1_3), .sc (.int .i64 a1_4), .sc (.int .i64 a1_5)], .c (.sc (.int .i64 a2))] [(.arg 0, ⟨.box, 0, [.ref (.arg 1) [] o1 l0_0.length, .sc (.int .i64 a0_1), .sc (.int .u64 a0_2)]⟩), (.arg 1, ⟨.fz, 1, cs1⟩)] (fun o => o = ⟨.c (.ref (.res 0) [] 0 r.1.length), [(.arg 0, ⟨.box, 0, [.ref (.arg 1) [] o1 l0_0.length, .sc (.int .i64 r.2.1), .sc (.int .u64 r.2.2)]⟩), (.arg 1, ⟨.fz, 1, cs1⟩), (.res 0, ⟨.lst, 3, encL c63 r.1⟩)], [], []⟩) := by
 refine tri_of_body (ac := C85) (xs := r85) Try.func85 (show Try.f85.body = some (Try.f85.body.getD .skip) from rfl) k85 q85 (Nat.le_of_ble_eq_true rfl) ?_
 refine body_of fun K hKn hKr => ?_
 unfold spec_l4DrawEvents.f at h
 unfold C85
 simp only [initT, Nat.reduceAdd]
 refine sr_k fun J1 hJ1 => ?_
 simp +decide only [Nat.reduceAdd, Nat.reduceMul, Int.reduceToNat, ak]
 refine gho_k (Weak.nm' 6 (.tmp 6 20) 3 (encL c63 ([] : List S63)) rfl rfl rfl) ?_
 simp +decide only [Nat.reduceAdd, Nat.reduceMul, Int.reduceToNat, ak]
 refine hJ1 _ ?_
 refine sr_k fun J2 hJ2 => ?_
 have g3 : (List.replicate 0 ([.int .i64 0, .int .i64 0, .int .u32 0] : List Value)).flatten = [] := rfl
 have g4 : (⟨.lst, 3, []⟩ : Root) = ⟨.lst, 3, encL c63 ([] : List S63)⟩ := rfl
 have g5 : ([] : List S63).length = 0 := rfl
 simp +decide only [Nat.reduceAdd, Nat.reduceMul, Int.reduceToNat, ak, g3, g4, g5]
 refine hJ2 _ ?_
 refine sr_k fun J6 hJ6 => ?_
 simp +decide only [Nat.reduceAdd, Nat.reduceMul, Int.reduceToNat, ak]
 obtain ⟨t7, h8, h⟩ := of_bind h
 refine cm [] (spec_l4Begin.tri a1_0 a1_1 a1_2 a1_3 a1_4 a1_5 _ h8) (fun hl8 => ?_)
 refine ct (.g [.sc (.int .u32 t7.1), .sc (.int .i64 t7.2.1), .sc (.int .i64 t7.2.2.1), .sc (.int .i64 t7.2.2.2.1), .sc (.int .i64 t7.2.2.2.2.1), .sc (.int .i64 t7.2.2.2.2.2.1), .ref (.tmp 15 0) [] 0 t7.2.2.2.2.2.2.1.length, .sc (.int .i64 t7.2.2.2.2.2.2.2.1), .sc (.int .i64 t7.2.2.2.2.2.2.2.2.1), .sc (.int .i64 t7.2.2.2.2.2.2.2.2.2.1), .sc (.int .i64 t7.2.2.2.2.2.2.2.2.2.2.1), .sc (.int .i64 t7.2.2.2.2.2.2.2.2.2.2.2.1), .sc (.bool t7.2.2.2.2.2.2.2.2.2.2.2.2)]) (mN ..) ?_ (s4 := [(.arg 0, ⟨.box, 0, [.ref (.arg 1) [] o1 l0_0.length, .sc (.int .i64 a0_1), .sc (.int .u64 a0_2)]⟩), (.arg 1, ⟨.fz, 1, cs1⟩), (.tmp 4 0, ⟨.box, 0, [.sc (.int .u32 a1_0), .sc (.int .i64 a1_1), .sc (.int .i64 a1_2), .sc (.int .i64 a1_3), .sc (.int .i64 a1_4), .sc (.int .i64 a1_5)]⟩), (.tmp 6 20, ⟨.lst, 3, encL c63 ([] : List S63)⟩), (.tmp 13 0, ⟨.lst, 3, encL c63 ([] : List S63)⟩), (.tmp 15 0, ⟨.lst, 1, encL c_i64 t7.2.2.2.2.2.2.1⟩)])
 simp +decide only [Nat.reduceAdd, Nat.reduceMul, Int.reduceToNat, ak]
 refine gho_k (Weak.own (.tmp 8 0) (cs' := [.sc (.int .u32 0), .sc (.int .i64 0), .sc (.int .i64 0), .sc (.int .i64 0), .sc (.int .i64 0), .sc (.int .i64 0), .own 1 (([] : List Int).length) (encL c_i64 ([] : List Int)), .sc (.int .i64 0), .sc (.int .i64 0), .sc (.int .i64 0), .sc (.int .i64 0), .sc (.int .i64 0), .sc (.bool false)]) rfl ⟨.inl rfl, .inl rfl, .inl rfl, .inl rfl, .inl rfl, .inl rfl, .inr ⟨rfl, _, rfl⟩, .inl rfl, .inl rfl, .inl rfl, .inl rfl, .inl rfl, .inl rfl, trivial⟩) ?_
 have g10 : (encL c_i64 t7.2.2.2.2.2.2.1).length = t7.2.2.2.2.2.2.1.length * 1 := by simp [encL_length c_i64_w]
 simp +decide only [Nat.reduceAdd, Nat.reduceMul, Int.reduceToNat, ak, g10]
 refine hJ6 _ ?_
 refine sr_k fun J11 hJ11 => ?_
 simp +decide only [Nat.reduceAdd, Nat.reduceMul, Int.reduceToNat, ak]
 obtain ⟨t12, h13, h⟩ := of_bind h
 refine cm [pI (.arg 0) .box, pI (.arg 1) .fz] (spec_l1Next.tri (cs1) o1 l0_0 hv1 a0_1 a0_2 3 _ h13) (fun hl13 => ?_)
 refine cs (mW [.ref (.arg 1) [] o1 l0_0.length, .sc (.int .i64 t12.2.1), .sc (.int .u64 t12.2.2)] (mF (mN ..))) ?_ (s4 := [(.arg 0, ⟨.box, 0, [.ref (.arg 1) [] o1 l0_0.length, .sc (.int .i64 t12.2.1), .sc (.int .u64 t12.2.2)]⟩), (.arg 1, ⟨.fz, 1, cs1⟩), (.tmp 4 0, ⟨.box, 0, [.sc (.int .u32 a1_0), .sc (.int .i64 a1_1), .sc (.int .i64 a1_2), .sc (.int .i64 a1_3), .sc (.int .i64 a1_4), .sc (.int .i64 a1_5)]⟩), (.tmp 6 20, ⟨.lst, 3, encL c63 ([] : List S63)⟩), (.tmp 13 0, ⟨.lst, 3, encL c63 ([] : List S63)⟩), (.tmp 8 0, ⟨.box, 0, [.sc (.int .u32 t7.1), .sc (.int .i64 t7.2.1), .sc (.int .i64 t7.2.2.1), .sc (.int .i64 t7.2.2.2.1), .sc (.int .i64 t7.2.2.2.2.1), .sc (.int .i64 t7.2.2.2.2.2.1), .own 1 t7.2.2.2.2.2.2.1.length (encL c_i64 t7.2.2.2.2.2.2.1), .sc (.int .i64 t7.2.2.2.2.2.2.2.1), .sc (.int .i64 t7.2.2.2.2.2.2.2.2.1), .sc (.int .i64 t7.2.2.2.2.2.2.2.2.2.1), .sc (.int .i64 t7.2.2.2.2.2.2.2.2.2.2.1), .sc (.int .i64 t7.2.2.2.2.2.2.2.2.2.2.2.1), .sc (.bool t7.2.2.2.2.2.2.2.2.2.2.2.2)]⟩)])
 simp +decide only [Nat.reduceAdd, Nat.reduceMul, Int.reduceToNat, ak]
 refine hJ11 _ ?_
 refine seq_k fun J15 hJ15 => ?_
 refine sr_k fun J16 hJ16 => ?_
 simp +decide only [Nat.reduceAdd, Nat.reduceMul, Int.reduceToNat, ak]
 refine hJ16 _ ?_
 refine block_k fun B17 B17n B17x B17r B17j => ?_
 obtain ⟨y95, h96, h⟩ := of_bind h
 refine gh_k (st' := ⟨[(0, .c (.ptr (.arg 0) [] 0)), (2, .c (.sc (.int .i64 a2))), (4, .c (.ptr (.tmp 4 0) [] 0)), (7, .c (.ref (.tmp 13 0) [] 0 (([] : List S63).length))), (8, .c (.ptr (.tmp 8 0) [] 0)), (9, .c (.sc (.int .i64 t12.1))), (10, .c (.sc (.int .i64 0)))], [(.arg 0, ⟨.box, 0, [.ref (.arg 1) [] o1 l0_0.length, .sc (.int .i64 t12.2.1), .sc (.int .u64 t12.2.2)]⟩), (.arg 1, ⟨.fz, 1, cs1⟩), (.tmp 4 0, ⟨.box, 0, [.sc (.int .u32 a1_0), .sc (.int .i64 a1_1), .sc (.int .i64 a1_2), .sc (.int .i64 a1_3), .sc (.int .i64 a1_4), .sc (.int .i64 a1_5)]⟩), (.tmp 13 0, ⟨.lst, 3, encL c63 ([] : List S63)⟩), (.tmp 8 0, ⟨.box, 0, [.sc (.int .u32 t7.1), .sc (.int .i64 t7.2.1), .sc (.int .i64 t7.2.2.1), .sc (.int .i64 t7.2.2.2.1), .sc (.int .i64 t7.2.2.2.2.1), .sc (.int .i64 t7.2.2.2.2.2.1), .own 1 t7.2.2.2.2.2.2.1.length (encL c_i64 t7.2.2.2.2.2.2.1), .sc (.int .i64 t7.2.2.2.2.2.2.2.1), .sc (.int .i64 t7.2.2.2.2.2.2.2.2.1), .sc (.int .i64 t7.2.2.2.2.2.2.2.2.2.1), .sc (.int .i64 t7.2.2.2.2.2.2.2.2.2.2.1), .sc (.int .i64 t7.2.2.2.2.2.2.2.2.2.2.2.1), .sc (.bool t7.2.2.2.2.2.2.2.2.2.2.2.2)]⟩)], [], []⟩) (wk [0, 2, 4, 7, 8, 9, 10] [pI (.arg 0) .box, pI (.arg 1) .fz, pI (.tmp 4 0) .box, pI (.tmp 13 0) .lst, pI (.tmp 8 0) .box] (h := by first | rfl | (simp +decide only [ak, akF]; done) | (simp +decide [ak, akF] <;> omega))) ?_
 rw [e_loop]
 refine spec_l4DrawEvents.l0_walk cs1 o1 l0_0 hv1 a2 t12.1 a1_0 a1_1 a1_2 a1_3 a1_4 a1_5 t7.1 t7.2.1 t7.2.2.1 t7.2.2.2.1 t7.2.2.2.2.1 t7.2.2.2.2.2.1 0 t12.2.1 t12.2.2 ([] : List S63) t7.2.2.2.2.2.2.1 t7.2.2.2.2.2.2.2.1 t7.2.2.2.2.2.2.2.2.1 t7.2.2.2.2.2.2.2.2.2.1 t7.2.2.2.2.2.2.2.2.2.2.1 t7.2.2.2.2.2.2.2.2.2.2.2.1 t7.2.2.2.2.2.2.2.2.2.2.2.2 _ h96 _ ?_
 refine B17x _ ?_
 refine hJ15 _ ?_
 refine sr_k fun J97 hJ97 => ?_
 simp +decide only [Nat.reduceAdd, Nat.reduceMul, Int.reduceToNat, ak]
 refine hJ97 _ ?_
 obtain rfl := Option.some.inj h
 refine hKr _ ⟨_, rfl, [⟨(.tmp 13 0), [], none, .lst⟩], _, rfl, rfl, ?_⟩
 exact cl
/-! ### spec.DrawSubRun: function 29 -/
def C29 : AC := .sr [.o (.alloc 2 [.int .u32 0, .int .i64 0, .int .i64 0, .int .i64 0, .int .i64 0, .int .i64 0]), .o (.mv 3 (.const (.slice none 0 0))), .gh, .keep [0, 2]] (.sr [.m 9 0, .call none (some 10) 68 [.tmp 9], .o (.alloc 4 [.slice none 0 0, .int .i64 0, .int .u64 0]), .gh, .st 3 4 10, .keep [0, 2, 4]] (.sr [.call none (some 11) 84 [.tmp 4], .o (.alloc 5 [.int .u32 0, .int .i64 0, .int .i64 0, .int .i64 0, .int .i64 0, .int .i64 0]), .st 6 5 11, .keep [0, 2, 4, 5]] (.sr [.m 12 0, .ln 13 12, .o (.bin 14 .quo (.t 13) (.k 2)), .o (.bin 15 .add (.k 40) (.t 14)), .call none (some 16) 69 [.tmp 4, .tmp 15], .o (.bin 17 .add (.k 10) (.t 16)), .m 6 17, .keep [2, 4, 5, 6]] (.sr [.call none (some 18) 69 [.tmp 4, .const (.int .i64 30)], .m 7 18, .keep [2, 4, 5, 6, 7]] (.seq (.ga (.sr [.m 19 7, .o (.bin 20 .eql (.t 19) (.k 0)), .keep [2, 4, 5, 6, 7, 20]] (.cond (.t 20) (.reg [.call none (some 21) 69 [.tmp 4, .const (.int .i64 2)], .o (.bin 22 .add (.k 4000) (.t 21)), .m 6 22, .keep [2, 4, 5, 6, 7]]) (.skip)))) (.sr [.o (.load 23 true 6 (.t 5)), .m 24 6, .call none (some 25) 85 [.tmp 4, .tmp 23, .tmp 24], .m 8 25, .keep [2, 5, 7, 8]] (.seq (.ga (.sr [.m 26 7, .keep [2, 5, 8, 26]] (.block 0 (.sr [.o (.bin 28 .eql (.t 26) (.k 1)), .m 27 28, .keep [2, 5, 8, 26, 27]] (.cond (.t 27) (.reg [.fa 29 1 5, .o (.store 1 (.t 29) (.k 17)), .keep [2, 5, 8]]) (.sr [.o (.bin 31 .eql (.t 26) (.k 2)), .m 30 31, .keep [2, 5, 8, 26, 30]] (.cond (.t 30) (.reg [.fa 32 2 5, .ld 33 1 32, .o (.bin 34 .sub (.t 33) (.k 1)), .fa 35 3 5, .st 1 35 34, .keep [2, 5, 8]]) (.sr [.o (.bin 37 .eql (.t 26) (.k 3)), .m 36 37, .keep [2, 5, 8, 26, 36]] (.cond (.t 36) (.reg [.fa 38 4 5, .o (.store 1 (.t 38) (.k 0)), .keep [2, 5, 8]]) (.sr [.o (.bin 40 .eql (.t 26) (.k 4)), .m 39 40, .keep [2, 5, 8, 26, 39]] (.cond (.t 39) (.reg [.fa 41 5 5, .o (.store 1 (.t 41) (.k 51)), .keep [2, 5, 8]]) (.sr [.o (.bin 43 .eql (.t 26) (.k 5)), .m 42 43, .keep [2, 5, 8, 42]] (.cond (.t 42) (.reg [.fa 44 2 5, .o (.store 1 (.t 44) (.k 0)), .keep [2, 5, 8]]) (.skip)))))))))))))) (.sr [.o (.load 45 true 6 (.t 5)), .m 46 8, .st 6 2 45, .m 3 46, .keep [2, 3]] (.ret)))))))))
def r29 : List RV := [.cell 2 true 6, .tmp 3]
theorem k29 : compC Try.prog 47 C29 (Try.f29.body.getD .skip) = some C29.erase := by kernel_rfl
theorem q29 : rvsOf Try.prog Try.f29.results.toList = some r29 := by kernel_rfl
def spec_DrawSubRun.f (l0 : List Int) : Option (Int × Int × Int × Int × Int × Int × (List S63)) := (spec_l1Begin.f l0 >>= fun t3 => (spec_l4DrawConfig.f l0 t3.1 t3.2 >>= fun t7 => (spec_l1Next.f l0 t7.2.2.2.2.2.2.1 t7.2.2.2.2.2.2.2 (IntKind.i64.wrap (40 + (IntKind.i64.wrap ((l0.length : Int).tdiv 2)))) >>= fun t11 => (spec_l1Next.f l0 t11.2.1 t11.2.2 30 >>= fun t15 => ((if t15.1 = 0 then (spec_l1Next.f l0 t15.2.1 t15.2.2 2 >>= fun t24 => (some (IntKind.i64.wrap (4000 + t24.1), t24.2.1, t24.2.2))) else (some (IntKind.i64.wrap (10 + t11.1), t15.2.1, t15.2.2))) >>= fun (j18 : Int × Int × Int) => (spec_l4DrawEvents.f l0 j18.2.1 j18.2.2 t7.1 t7.2.1 t7.2.2.1 t7.2.2.2.1 t7.2.2.2.2.1 t7.2.2.2.2.2.1 j18.1 >>= fun t28 => ((if t15.1 = 1 then (some (17, t7.2.2.1, t7.2.2.2.1, t7.2.2.2.2.1, t7.2.2.2.2.2.1)) else (if t15.1 = 2 then (some (t7.2.1, t7.2.2.1, IntKind.i64.wrap (t7.2.2.1 - 1), t7.2.2.2.2.1, t7.2.2.2.2.2.1)) else (if t15.1 = 3 then (some (t7.2.1, t7.2.2.1, t7.2.2.2.1, 0, t7.2.2.2.2.2.1)) else (if t15.1 = 4 then (some (t7.2.1, t7.2.2.1, t7.2.2.2.1, t7.2.2.2.2.1, 51)) else (if t15.1 = 5 then (some (t7.2.1, 0, t7.2.2.2.1, t7.2.2.2.2.1, t7.2.2.2.2.2.1)) else (some (t7.2.1, t7.2.2.1, t7.2.2.2.1, t7.2.2.2.2.1, t7.2.2.2.2.2.1))))))) >>= fun (j31 : Int × Int × Int × Int × Int) => (some (t7.1, j31.1, j31.2.1, j31.2.2.1, j31.2.2.2.1, j31.2.2.2.2, t28.1)))))))))
theorem spec_DrawSubRun.tri (cs0 : List Cell) (o0 : Nat) (l0 : List Int) (hv0 : Vw c_u8 1 cs0 o0 l0) (r : Int × Int × Int × Int × Int × Int × (List S63)) (h : spec_DrawSubRun.f l0 = some r) : Tri Try.prog 29 [.c (.ref (.arg 0) [] o0 l0.length)] [(.arg 0, ⟨.fz, 1, cs0⟩)] (fun o => o = ⟨.tup [(true, [.sc (.int .u32 r.1), .sc (.int .i64 r.2.1), .sc (.int .i64 r.2.2.1), .sc (.int .i64 r.2.2.2.1), .sc (.int .i64 r.2.2.2.2.1), .sc (.int .i64 r.2.2.2.2.2.1)]), (false, [.ref (.res 0) [] 0 r.2.2.2.2.2.2.length])], [(.arg 0, ⟨.fz, 1, cs0⟩), (.res 0, ⟨.lst, 3, encL c63 r.2.2.2.2.2.2⟩)], [], []⟩) := by
 refine tri_of_body (ac := C29) (xs := r29) Try.func29 (show Try.f29.body = some (Try.f29.body.getD .skip) from rfl) k29 q29 (Nat.le_of_ble_eq_true rfl) ?_
 refine body_of fun K hKn hKr => ?_
 unfold spec_DrawSubRun.f at h
 unfold C29
 simp only [initT, Nat.reduceAdd]
 refine sr_k fun J1 hJ1 => ?_
 simp +decide only [Nat.reduceAdd, Nat.reduceMul, Int.reduceToNat, ak]
 refine gho_k (Weak.nm' 3 (.tmp 3 20) 3 (encL c63 ([] : List S63)) rfl rfl rfl) ?_
 simp +decide only [Nat.reduceAdd, Nat.reduceMul, Int.reduceToNat, ak]
 refine hJ1 _ ?_
 refine sr_k fun J2 hJ2 => ?_
 simp +decide only [Nat.reduceAdd, Nat.reduceMul, Int.reduceToNat, ak]
 obtain ⟨t3, h4, h⟩ := of_bind h
 refine cm [pI (.arg 0) .fz] (spec_l1Begin.tri (cs0) o0 l0 hv0 _ h4) (fun hl4 => ?_)
 refine ct (.g [.ref (.arg 0) [] o0 l0.length, .sc (.int .i64 t3.1), .sc (.int .u64 t3.2)]) (mF (mN ..)) ?_ (s4 := [(.arg 0, ⟨.fz, 1, cs0⟩), (.tmp 2 0, ⟨.box, 0, [.sc (.int .u32 0), .sc (.int .i64 0), .sc (.int .i64 0), .sc (.int .i64 0), .sc (.int .i64 0), .sc (.int .i64 0)]⟩), (.tmp 3 20, ⟨.lst, 3, encL c63 ([] : List S63)⟩)])
 simp +decide only [Nat.reduceAdd, Nat.reduceMul, Int.reduceToNat, ak]
 refine gho_k (Weak.own (.tmp 4 0) (cs' := [.own 1 (([] : List Int).length) (encL c_u8 ([] : List Int)), .sc (.int .i64 0), .sc (.int .u64 0)]) rfl ⟨.inr ⟨rfl, _, rfl⟩, .inl rfl, .inl rfl, trivial⟩) ?_
 simp +decide only [Nat.reduceAdd, Nat.reduceMul, Int.reduceToNat, ak]
 refine hJ2 _ ?_
 refine sr_k fun J6 hJ6 => ?_
 simp +decide only [Nat.reduceAdd, Nat.reduceMul, Int.reduceToNat, ak]
 obtain ⟨t7, h8, h⟩ := of_bind h
 refine cm [pN (.arg 0) (.tmp 4 0) .box, pN (.arg 1) (.arg 0) .fz] (spec_l4DrawConfig.tri (cs0) o0 l0 hv0 t3.1 t3.2 _ h8) (fun hl8 => ?_)
 refine ct (.g [.sc (.int .u32 t7.1), .sc (.int .i64 t7.2.1), .sc (.int .i64 t7.2.2.1), .sc (.int .i64 t7.2.2.2.1), .sc (.int .i64 t7.2.2.2.2.1), .sc (.int .i64 t7.2.2.2.2.2.1)]) (mW [.ref (.arg 0) [] o0 l0.length, .sc (.int .i64 t7.2.2.2.2.2.2.1), .sc (.int .u64 t7.2.2.2.2.2.2.2)] (mF (mN ..))) ?_ (s4 := [(.arg 0, ⟨.fz, 1, cs0⟩), (.tmp 2 0, ⟨.box, 0, [.sc (.int .u32 0), .sc (.int .i64 0), .sc (.int .i64 0), .sc (.int .i64 0), .sc (.int .i64 0), .sc (.int .i64 0)]⟩), (.tmp 3 20, ⟨.lst, 3, encL c63 ([] : List S63)⟩), (.tmp 4 0, ⟨.box, 0, [.ref (.arg 0) [] o0 l0.length, .sc (.int .i64 t7.2.2.2.2.2.2.1), .sc (.int .u64 t7.2.2.2.2.2.2.2)]⟩)])
 simp +decide only [Nat.reduceAdd, Nat.reduceMul, Int.reduceToNat, ak]
 refine hJ6 _ ?_
 refine sr_k fun J10 hJ10 => ?_
 simp +decide only [Nat.reduceAdd, Nat.reduceMul, Int.reduceToNat, ak, ne_lit]
 obtain ⟨t11, h12, h⟩ := of_bind h
 refine cm [pN (.arg 0) (.tmp 4 0) .box, pN (.arg 1) (.arg 0) .fz] (spec_l1Next.tri (cs0) o0 l0 hv0 t7.2.2.2.2.2.2.1 t7.2.2.2.2.2.2.2 (IntKind.i64.wrap (40 + (IntKind.i64.wrap ((l0.length : Int).tdiv 2)))) _ h12) (fun hl12 => ?_)
 refine cs (mW [.ref (.arg 0) [] o0 l0.length, .sc (.int .i64 t11.2.1), .sc (.int .u64 t11.2.2)] (mF (mN ..))) ?_ (s4 := [(.arg 0, ⟨.fz, 1, cs0⟩), (.tmp 2 0, ⟨.box, 0, [.sc (.int .u32 0), .sc (.int .i64 0), .sc (.int .i64 0), .sc (.int .i64 0), .sc (.int .i64 0), .sc (.int .i64 0)]⟩), (.tmp 3 20, ⟨.lst, 3, encL c63 ([] : List S63)⟩), (.tmp 4 0, ⟨.box, 0, [.ref (.arg 0) [] o0 l0.length, .sc (.int .i64 t11.2.1), .sc (.int .u64 t11.2.2)]⟩), (.tmp 5 0, ⟨.box, 0, [.sc (.int .u32 t7.1), .sc (.int .i64 t7.2.1), .sc (.int .i64 t7.2.2.1), .sc (.int .i64 t7.2.2.2.1), .sc (.int .i64 t7.2.2.2.2.1), .sc (.int .i64 t7.2.2.2.2.2.1)]⟩)])
 simp +decide only [Nat.reduceAdd, Nat.reduceMul, Int.reduceToNat, ak]
 refine hJ10 _ ?_
 refine sr_k fun J14 hJ14 => ?_
 simp +decide only [Nat.reduceAdd, Nat.reduceMul, Int.reduceToNat, ak]
 obtain ⟨t15, h16, h⟩ := of_bind h
 refine cm [pN (.arg 0) (.tmp 4 0) .box, pN (.arg 1) (.arg 0) .fz] (spec_l1Next.tri (cs0) o0 l0 hv0 t11.2.1 t11.2.2 30 _ h16) (fun hl16 => ?_)
 refine cs (mW [.ref (.arg 0) [] o0 l0.length, .sc (.int .i64 t15.2.1), .sc (.int .u64 t15.2.2)] (mF (mN ..))) ?_ (s4 := [(.arg 0, ⟨.fz, 1, cs0⟩), (.tmp 2 0, ⟨.box, 0, [.sc (.int .u32 0), .sc (.int .i64 0), .sc (.int .i64 0), .sc (.int .i64 0), .sc (.int .i64 0), .sc (.int .i64 0)]⟩), (.tmp 3 20, ⟨.lst, 3, encL c63 ([] : List S63)⟩), (.tmp 4 0, ⟨.box, 0, [.ref (.arg 0) [] o0 l0.length, .sc (.int .i64 t15.2.1), .sc (.int .u64 t15.2.2)]⟩), (.tmp 5 0, ⟨.box, 0, [.sc (.int .u32 t7.1), .sc (.int .i64 t7.2.1), .sc (.int .i64 t7.2.2.1), .sc (.int .i64 t7.2.2.2.1), .sc (.int .i64 t7.2.2.2.2.1), .sc (.int .i64 t7.2.2.2.2.2.1)]⟩)])
 simp +decide only [Nat.reduceAdd, Nat.reduceMul, Int.reduceToNat, ak]
 refine hJ14 _ ?_
 obtain ⟨j18, h19, hn⟩ := of_bind h
 refine seq_j (fun st => st = ⟨[(2, .c (.ptr (.tmp 2 0) [] 0)), (4, .c (.ptr (.tmp 4 0) [] 0)), (5, .c (.ptr (.tmp 5 0) [] 0)), (6, .c (.sc (.int .i64 j18.1))), (7, .c (.sc (.int .i64 t15.1)))], [(.arg 0, ⟨.fz, 1, cs0⟩), (.tmp 2 0, ⟨.box, 0, [.sc (.int .u32 0), .sc (.int .i64 0), .sc (.int .i64 0), .sc (.int .i64 0), .sc (.int .i64 0), .sc (.int .i64 0)]⟩), (.tmp 4 0, ⟨.box, 0, [.ref (.arg 0) [] o0 l0.length, .sc (.int .i64 j18.2.1), .sc (.int .u64 j18.2.2)]⟩), (.tmp 5 0, ⟨.box, 0, [.sc (.int .u32 t7.1), .sc (.int .i64 t7.2.1), .sc (.int .i64 t7.2.2.1), .sc (.int .i64 t7.2.2.2.1), .sc (.int .i64 t7.2.2.2.2.1), .sc (.int .i64 t7.2.2.2.2.2.1)]⟩)], [], []⟩) (fun J20 hJ20 => ?_) ?_
 ·replace h := h19; clear hn
  refine ga_k fun G21 G21n G21r G21x => ?_
  refine sr_k fun J22 hJ22 => ?_
  simp +decide only [Nat.reduceAdd, Nat.reduceMul, Int.reduceToNat, ak]
  refine hJ22 _ ?_
  refine cond_k (b := decide (t15.1 = 0)) rfl (fun c23 => ?_) (fun c23 => ?_)
  ·replace c23 := of_decide_eq_true c23; rw [if_pos c23] at h
   refine reg_k ?_
   simp +decide only [Nat.reduceAdd, Nat.reduceMul, Int.reduceToNat, ak]
   obtain ⟨t24, h25, h⟩ := of_bind h
   refine cm [pN (.arg 0) (.tmp 4 0) .box, pN (.arg 1) (.arg 0) .fz] (spec_l1Next.tri (cs0) o0 l0 hv0 t15.2.1 t15.2.2 2 _ h25) (fun hl25 => ?_)
   refine cs (mW [.ref (.arg 0) [] o0 l0.length, .sc (.int .i64 t24.2.1), .sc (.int .u64 t24.2.2)] (mF (mN ..))) ?_ (s4 := [(.arg 0, ⟨.fz, 1, cs0⟩), (.tmp 2 0, ⟨.box, 0, [.sc (.int .u32 0), .sc (.int .i64 0), .sc (.int .i64 0), .sc (.int .i64 0), .sc (.int .i64 0), .sc (.int .i64 0)]⟩), (.tmp 3 20, ⟨.lst, 3, encL c63 ([] : List S63)⟩), (.tmp 4 0, ⟨.box, 0, [.ref (.arg 0) [] o0 l0.length, .sc (.int .i64 t24.2.1), .sc (.int .u64 t24.2.2)]⟩), (.tmp 5 0, ⟨.box, 0, [.sc (.int .u32 t7.1), .sc (.int .i64 t7.2.1), .sc (.int .i64 t7.2.2.1), .sc (.int .i64 t7.2.2.2.1), .sc (.int .i64 t7.2.2.2.2.1), .sc (.int .i64 t7.2.2.2.2.2.1)]⟩)])
   simp +decide only [Nat.reduceAdd, Nat.reduceMul, Int.reduceToNat, ak]
   obtain rfl := Option.some.inj h
   refine G21n _ _ (wk [2, 4, 5, 6, 7] [pI (.arg 0) .fz, pI (.tmp 2 0) .box, pI (.tmp 4 0) .box, pI (.tmp 5 0) .box]) (hJ20 _ rfl)
  ·replace c23 := of_decide_eq_false c23; rw [if_neg c23] at h
   obtain rfl := Option.some.inj h
   refine G21n _ _ (wk [2, 4, 5, 6, 7] [pI (.arg 0) .fz, pI (.tmp 2 0) .box, pI (.tmp 4 0) .box, pI (.tmp 5 0) .box]) (hJ20 _ rfl)
 ·replace h := hn; clear hn h19
  rintro _ rfl
  refine sr_k fun J27 hJ27 => ?_
  simp +decide only [Nat.reduceAdd, Nat.reduceMul, Int.reduceToNat, ak]
  obtain ⟨t28, h29, h⟩ := of_bind h
  refine cm [pN (.arg 0) (.tmp 4 0) .box, pN (.arg 1) (.arg 0) .fz] (spec_l4DrawEvents.tri (cs0) o0 l0 hv0 j18.2.1 j18.2.2 t7.1 t7.2.1 t7.2.2.1 t7.2.2.2.1 t7.2.2.2.2.1 t7.2.2.2.2.2.1 j18.1 _ h29) (fun hl29 => ?_)
  refine ct (.c (.ref (.tmp 25 0) [] 0 t28.1.length)) (mW [.ref (.arg 0) [] o0 l0.length, .sc (.int .i64 t28.2.1), .sc (.int .u64 t28.2.2)] (mF (mN ..))) ?_ (s4 := [(.arg 0, ⟨.fz, 1, cs0⟩), (.tmp 2 0, ⟨.box, 0, [.sc (.int .u32 0), .sc (.int .i64 0), .sc (.int .i64 0), .sc (.int .i64 0), .sc (.int .i64 0), .sc (.int .i64 0)]⟩), (.tmp 4 0, ⟨.box, 0, [.ref (.arg 0) [] o0 l0.length, .sc (.int .i64 t28.2.1), .sc (.int .u64 t28.2.2)]⟩), (.tmp 5 0, ⟨.box, 0, [.sc (.int .u32 t7.1), .sc (.int .i64 t7.2.1), .sc (.int .i64 t7.2.2.1), .sc (.int .i64 t7.2.2.2.1), .sc (.int .i64 t7.2.2.2.2.1), .sc (.int .i64 t7.2.2.2.2.2.1)]⟩), (.tmp 25 0, ⟨.lst, 3, encL c63 t28.1⟩)])
  simp +decide only [Nat.reduceAdd, Nat.reduceMul, Int.reduceToNat, ak]
  refine hJ27 _ ?_
  obtain ⟨j31, h32, hn⟩ := of_bind h
  refine seq_j (fun st => st = ⟨[(2, .c (.ptr (.tmp 2 0) [] 0)), (5, .c (.ptr (.tmp 5 0) [] 0)), (8, .c (.ref (.tmp 25 0) [] 0 t28.1.length))], [(.arg 0, ⟨.fz, 1, cs0⟩), (.tmp 2 0, ⟨.box, 0, [.sc (.int .u32 0), .sc (.int .i64 0), .sc (.int .i64 0), .sc (.int .i64 0), .sc (.int .i64 0), .sc (.int .i64 0)]⟩), (.tmp 5 0, ⟨.box, 0, [.sc (.int .u32 t7.1), .sc (.int .i64 j31.1), .sc (.int .i64 j31.2.1), .sc (.int .i64 j31.2.2.1), .sc (.int .i64 j31.2.2.2.1), .sc (.int .i64 j31.2.2.2.2)]⟩), (.tmp 25 0, ⟨.lst, 3, encL c63 t28.1⟩)], [], []⟩) (fun J33 hJ33 => ?_) ?_
  ·replace h := h32; clear hn
   refine ga_k fun G34 G34n G34r G34x => ?_
   refine sr_k fun J35 hJ35 => ?_
   simp +decide only [Nat.reduceAdd, Nat.reduceMul, Int.reduceToNat, ak]
   refine hJ35 _ ?_
   refine block_k fun B36 B36n B36x B36r B36j => ?_
   refine sr_k fun J37 hJ37 => ?_
   simp +decide only [Nat.reduceAdd, Nat.reduceMul, Int.reduceToNat, ak]
   refine hJ37 _ ?_
   refine cond_k (b := decide (t15.1 = 1)) rfl (fun c38 => ?_) (fun c38 => ?_)
   ·replace c38 := of_decide_eq_true c38; rw [if_pos c38] at h
    refine reg_k ?_
    simp +decide only [Nat.reduceAdd, Nat.reduceMul, Int.reduceToNat, ak]
    refine B36n _ ?_
    obtain rfl := Option.some.inj h
    refine G34n _ _ (wk [2, 5, 8] [pI (.arg 0) .fz, pI (.tmp 2 0) .box, pI (.tmp 5 0) .box, pI (.tmp 25 0) .lst]) (hJ33 _ rfl)
   ·replace c38 := of_decide_eq_false c38; rw [if_neg c38] at h
    refine sr_k fun J39 hJ39 => ?_
    simp +decide only [Nat.reduceAdd, Nat.reduceMul, Int.reduceToNat, ak]
    refine hJ39 _ ?_
    refine cond_k (b := decide (t15.1 = 2)) rfl (fun c42 => ?_) (fun c42 => ?_)
    ·replace c42 := of_decide_eq_true c42; rw [if_pos c42] at h
     refine reg_k ?_
     simp +decide only [Nat.reduceAdd, Nat.reduceMul, Int.reduceToNat, ak]
     refine B36n _ ?_
     obtain rfl := Option.some.inj h
     refine G34n _ _ (wk [2, 5, 8] [pI (.arg 0) .fz, pI (.tmp 2 0) .box, pI (.tmp 5 0) .box, pI (.tmp 25 0) .lst]) (hJ33 _ rfl)
    ·replace c42 := of_decide_eq_false c42; rw [if_neg c42] at h
     refine sr_k fun J43 hJ43 => ?_
     simp +decide only [Nat.reduceAdd, Nat.reduceMul, Int.reduceToNat, ak]
     refine hJ43 _ ?_
     refine cond_k (b := decide (t15.1 = 3)) rfl (fun c44 => ?_) (fun c44 => ?_)
     ·replace c44 := of_decide_eq_true c44; rw [if_pos c44] at h
      refine reg_k ?_
      simp +decide only [Nat.reduceAdd, Nat.reduceMul, Int.reduceToNat, ak]
      refine B36n _ ?_
      obtain rfl := Option.some.inj h
      refine G34n _ _ (wk [2, 5, 8] [pI (.arg 0) .fz, pI (.tmp 2 0) .box, pI (.tmp 5 0) .box, pI (.tmp 25 0) .lst]) (hJ33 _ rfl)
     ·replace c44 := of_decide_eq_false c44; rw [if_neg c44] at h
      refine sr_k fun J45 hJ45 => ?_
      simp +decide only [Nat.reduceAdd, Nat.reduceMul, Int.reduceToNat, ak]
      refine hJ45 _ ?_
      refine cond_k (b := decide (t15.1 = 4)) rfl (fun c46 => ?_) (fun c46 => ?_)
      ·replace c46 := of_decide_eq_true c46; rw [if_pos c46] at h
       refine reg_k ?_
       simp +decide only [Nat.reduceAdd, Nat.reduceMul, Int.reduceToNat, ak]
       refine B36n _ ?_
       obtain rfl := Option.some.inj h
       refine G34n _ _ (wk [2, 5, 8] [pI (.arg 0) .fz, pI (.tmp 2 0) .box, pI (.tmp 5 0) .box, pI (.tmp 25 0) .lst]) (hJ33 _ rfl)
      ·replace c46 := of_decide_eq_false c46; rw [if_neg c46] at h
       refine sr_k fun J47 hJ47 => ?_
       simp +decide only [Nat.reduceAdd, Nat.reduceMul, Int.reduceToNat, ak]
       refine hJ47 _ ?_
       refine cond_k (b := decide (t15.1 = 5)) rfl (fun c48 => ?_) (fun c48 => ?_)
       ·replace c48 := of_decide_eq_true c48; rw [if_pos c48] at h
        refine reg_k ?_
        simp +decide only [Nat.reduceAdd, Nat.reduceMul, Int.reduceToNat, ak]
        refine B36n _ ?_
        obtain rfl := Option.some.inj h
        refine G34n _ _ (wk [2, 5, 8] [pI (.arg 0) .fz, pI (.tmp 2 0) .box, pI (.tmp 5 0) .box, pI (.tmp 25 0) .lst]) (hJ33 _ rfl)
       ·replace c48 := of_decide_eq_false c48; rw [if_neg c48] at h
        refine B36n _ ?_
        obtain rfl := Option.some.inj h
        refine G34n _ _ (wk [2, 5, 8] [pI (.arg 0) .fz, pI (.tmp 2 0) .box, pI (.tmp 5 0) .box, pI (.tmp 25 0) .lst]) (hJ33 _ rfl)
  ·replace h := hn; clear hn h32
   rintro _ rfl
   refine sr_k fun J49 hJ49 => ?_
   simp +decide only [Nat.reduceAdd, Nat.reduceMul, Int.reduceToNat, ak]
   refine hJ49 _ ?_
   obtain rfl := Option.some.inj h
   refine hKr _ ⟨_, rfl, [⟨(.tmp 25 0), [], none, .lst⟩], _, rfl, rfl, ?_⟩
   exact cl
/-! ### spec.l4ConfigOK: function 130 -/
def C130 : AC := .sr [.o (.box 1 (.t 0)), .o (.mv 2 (.const (.bool false))), .keep [1]] (.sr [.fa 3 1 1, .ld 4 1 3, .o (.bin 5 .geq (.t 4) (.k 1)), .m 6 5, .op (some (6, true)) (.faddr 7 1 (.t 1)), .op (some (6, true)) (.load 8 false 1 (.t 7)), .op (some (6, true)) (.bin 9 .leq (.t 8) (.k 16)), .o (.pick 10 (.t 6) (.t 9) (.const (.bool false))), .m 11 10, .op (some (11, true)) (.faddr 12 2 (.t 1)), .op (some (11, true)) (.load 13 false 1 (.t 12)), .op (some (11, true)) (.bin 14 .geq (.t 13) (.k 1)), .o (.pick 15 (.t 11) (.t 14) (.const (.bool false))), .m 16 15, .op (some (16, true)) (.faddr 17 2 (.t 1)), .op (some (16, true)) (.load 18 false 1 (.t 17)), .op (some (16, true)) (.bin 19 .leq (.t 18) (.k 50)), .o (.pick 20 (.t 16) (.t 19) (.const (.bool false))), .m 21 20, .op (some (21, true)) (.faddr 22 3 (.t 1)), .op (some (21, true)) (.load 23 false 1 (.t 22)), .op (some (21, true)) (.faddr 24 2 (.t 1)), .op (some (21, true)) (.load 25 false 1 (.t 24)), .op (some (21, true)) (.bin 26 .geq (.t 23) (.t 25)), .o (.pick 27 (.t 21) (.t 26) (.const (.bool false))), .m 28 27, .op (some (28, true)) (.faddr 29 3 (.t 1)), .op (some (28, true)) (.load 30 false 1 (.t 29)), .op (some (28, true)) (.bin 31 .leq (.t 30) (.k 400)), .o (.pick 32 (.t 28) (.t 31) (.const (.bool false))), .m 33 32, .op (some (33, true)) (.faddr 34 4 (.t 1)), .op (some (33, true)) (.load 35 false 1 (.t 34)), .op (some (33, true)) (.bin 36 .geq (.t 35) (.k 1)), .o (.pick 37 (.t 33) (.t 36) (.const (.bool false))), .m 38 37, .op (some (38, true)) (.faddr 39 4 (.t 1)), .op (some (38, true)) (.load 40 false 1 (.t 39)), .op (some (38, true)) (.bin 41 .leq (.t 40) (.k 8)), .o (.pick 42 (.t 38) (.t 41) (.const (.bool false))), .m 43 42, .op (some (43, true)) (.faddr 44 5 (.t 1)), .op (some (43, true)) (.load 45 false 1 (.t 44)), .op (some (43, true)) (.bin 46 .geq (.t 45) (.k 1)), .o (.pick 47 (.t 43) (.t 46) (.const (.bool false))), .m 48 47, .op (some (48, true)) (.faddr 49 5 (.t 1)), .op (some (48, true)) (.load 50 false 1 (.t 49)), .op (some (48, true)) (.bin 51 .leq (.t 50) (.k 50)), .o (.pick 52 (.t 48) (.t 51) (.const (.bool false))), .m 2 52, .keep [2]] (.ret))
def r130 : List RV := [.tmp 2]
theorem k130 : compC Try.prog 53 C130 (Try.f130.body.getD .skip) = some C130.erase := by kernel_rfl
theorem q130 : rvsOf Try.prog Try.f130.results.toList = some r130 := by kernel_rfl
def spec_l4ConfigOK.f (a0_0 : Int) (a0_1 : Int) (a0_2 : Int) (a0_3 : Int) (a0_4 : Int) (a0_5 : Int) : Option Bool := (if a0_1 ≥ 1 then (if a0_1 ≤ 16 then (if a0_2 ≥ 1 then (if a0_2 ≤ 50 then (if a0_3 ≥ a0_2 then (if a0_3 ≤ 400 then (if a0_4 ≥ 1 then (if a0_4 ≤ 8 then (if a0_5 ≥ 1 then (some (decide (a0_5 ≤ 50))) else (some false)) else (some false)) else (some false)) else (some false)) else (some false)) else (some false)) else (some false)) else (some false)) else (some false))
theorem spec_l4ConfigOK.tri (a0_0 : Int) (a0_1 : Int) (a0_2 : Int) (a0_3 : Int) (a0_4 : Int) (a0_5 : Int) (r : Bool) (h : spec_l4ConfigOK.f a0_0 a0_1 a0_2 a0_3 a0_4 a0_5 = some r) : Tri Try.prog 130 [.g [.sc (.int .u32 a0_0), .sc (.int .i64 a0_1), .sc (.int .i64 a0_2), .sc (.int .i64 a0_3), .sc (.int .i64 a0_4), .sc (.int .i64 a0_5)]] [] (fun o => o = ⟨.c (.sc (.bool r)), [], [], []⟩) := by
 refine tri_of_body (ac := C130) (xs := r130) Try.func130 (show Try.f130.body = some (Try.f130.body.getD .skip) from rfl) k130 q130 (Nat.le_of_ble_eq_true rfl) ?_
 refine body_of fun K hKn hKr => ?_
 unfold spec_l4ConfigOK.f at h
 unfold C130
 simp only [initT, Nat.reduceAdd]
 refine sr_k fun J1 hJ1 => ?_
 simp +decide only [Nat.reduceAdd, Nat.reduceMul, Int.reduceToNat, ak]
 refine hJ1 _ ?_
 refine sr_k fun J2 hJ2 => ?_
 simp +decide only [Nat.reduceAdd, Nat.reduceMul, Int.reduceToNat, ak]
 by_cases c3 : a0_1 ≥ 1
 ·rw [if_pos c3] at h
  have e4 : decide (a0_1 ≥ 1) = true := decide_eq_true c3
  simp +decide only [Nat.reduceAdd, Nat.reduceMul, Int.reduceToNat, ak, e4]
  by_cases c5 : a0_1 ≤ 16
  ·rw [if_pos c5] at h
   have e6 : decide (a0_1 ≤ 16) = true := decide_eq_true c5
   simp +decide only [Nat.reduceAdd, Nat.reduceMul, Int.reduceToNat, ak, e6]
   by_cases c9 : a0_2 ≥ 1
   ·rw [if_pos c9] at h
    have e10 : decide (a0_2 ≥ 1) = true := decide_eq_true c9
    simp +decide only [Nat.reduceAdd, Nat.reduceMul, Int.reduceToNat, ak, e10]
    by_cases c11 : a0_2 ≤ 50
    ·rw [if_pos c11] at h
     have e12 : decide (a0_2 ≤ 50) = true := decide_eq_true c11
     simp +decide only [Nat.reduceAdd, Nat.reduceMul, Int.reduceToNat, ak, e12]
     by_cases c15 : a0_3 ≥ a0_2
     ·rw [if_pos c15] at h
      have e16 : decide (a0_3 ≥ a0_2) = true := decide_eq_true c15
      simp +decide only [Nat.reduceAdd, Nat.reduceMul, Int.reduceToNat, ak, e16]
      by_cases c17 : a0_3 ≤ 400
      ·rw [if_pos c17] at h
       have e18 : decide (a0_3 ≤ 400) = true := decide_eq_true c17
       simp +decide only [Nat.reduceAdd, Nat.reduceMul, Int.reduceToNat, ak, e18]
       by_cases c20 : a0_4 ≥ 1
       ·rw [if_pos c20] at h
        have e21 : decide (a0_4 ≥ 1) = true := decide_eq_true c20
        simp +decide only [Nat.reduceAdd, Nat.reduceMul, Int.reduceToNat, ak, e21]
        by_cases c22 : a0_4 ≤ 8
        ·rw [if_pos c22] at h
         have e23 : decide (a0_4 ≤ 8) = true := decide_eq_true c22
         simp +decide only [Nat.reduceAdd, Nat.reduceMul, Int.reduceToNat, ak, e23]
         by_cases c24 : a0_5 ≥ 1
         ·rw [if_pos c24] at h
          have e25 : decide (a0_5 ≥ 1) = true := decide_eq_true c24
          simp +decide only [Nat.reduceAdd, Nat.reduceMul, Int.reduceToNat, ak, e25]
          refine hJ2 _ ?_
          obtain rfl := Option.some.inj h
          refine hKr _ ⟨_, rfl, [], _, rfl, rfl, ?_⟩
          exact cl
         ·rw [if_neg c24] at h
          have e26 : decide (a0_5 ≥ 1) = false := decide_eq_false c24
          simp +decide only [Nat.reduceAdd, Nat.reduceMul, Int.reduceToNat, ak, e26]
          refine hJ2 _ ?_
          obtain rfl := Option.some.inj h
          refine hKr _ ⟨_, rfl, [], _, rfl, rfl, ?_⟩
          exact cl
        ·rw [if_neg c22] at h
         have e27 : decide (a0_4 ≤ 8) = false := decide_eq_false c22
         simp +decide only [Nat.reduceAdd, Nat.reduceMul, Int.reduceToNat, ak, e27]
         refine hJ2 _ ?_
         obtain rfl := Option.some.inj h
         refine hKr _ ⟨_, rfl, [], _, rfl, rfl, ?_⟩
         exact cl
       ·rw [if_neg c20] at h
        have e28 : decide (a0_4 ≥ 1) = false := decide_eq_false c20
        simp +decide only [Nat.reduceAdd, Nat.reduceMul, Int.reduceToNat, ak, e28]
        refine hJ2 _ ?_
        obtain rfl := Option.some.inj h
        refine hKr _ ⟨_, rfl, [], _, rfl, rfl, ?_⟩
        exact cl
      ·rw [if_neg c17] at h
       have e29 : decide (a0_3 ≤ 400) = false := decide_eq_false c17
       simp +decide only [Nat.reduceAdd, Nat.reduceMul, Int.reduceToNat, ak, e29]
       refine hJ2 _ ?_
       obtain rfl := Option.some.inj h
       refine hKr _ ⟨_, rfl, [], _, rfl, rfl, ?_⟩
       exact cl
     ·rw [if_neg c15] at h
      have e30 : decide (a0_3 ≥ a0_2) = false := decide_eq_false c15
      simp +decide only [Nat.reduceAdd, Nat.reduceMul, Int.reduceToNat, ak, e30]
      refine hJ2 _ ?_
      obtain rfl := Option.some.inj h
      refine hKr _ ⟨_, rfl, [], _, rfl, rfl, ?_⟩
      exact cl
    ·rw [if_neg c11] at h
     have e31 : decide (a0_2 ≤ 50) = false := decide_eq_false c11
     simp +decide only [Nat.reduceAdd, Nat.reduceMul, Int.reduceToNat, ak, e31]
     refine hJ2 _ ?_
     obtain rfl := Option.some.inj h
     refine hKr _ ⟨_, rfl, [], _, rfl, rfl, ?_⟩
     exact cl
   ·rw [if_neg c9] at h
    have e32 : decide (a0_2 ≥ 1) = false := decide_eq_false c9
    simp +decide only [Nat.reduceAdd, Nat.reduceMul, Int.reduceToNat, ak, e32]
    refine hJ2 _ ?_
    obtain rfl := Option.some.inj h
    refine hKr _ ⟨_, rfl, [], _, rfl, rfl, ?_⟩
    exact cl
  ·rw [if_neg c5] at h
   have e33 : decide (a0_1 ≤ 16) = false := decide_eq_false c5
   simp +decide only [Nat.reduceAdd, Nat.reduceMul, Int.reduceToNat, ak, e33]
   refine hJ2 _ ?_
   obtain rfl := Option.some.inj h
   refine hKr _ ⟨_, rfl, [], _, rfl, rfl, ?_⟩
   exact cl
 ·rw [if_neg c3] at h
  have e34 : decide (a0_1 ≥ 1) = false := decide_eq_false c3
  simp +decide only [Nat.reduceAdd, Nat.reduceMul, Int.reduceToNat, ak, e34]
  refine hJ2 _ ?_
  obtain rfl := Option.some.inj h
  refine hKr _ ⟨_, rfl, [], _, rfl, rfl, ?_⟩
  exact cl
/-! ### spec.l4Run: function 86 -/
def C86_l0 : AC := .seq (.sr [.m 21 9, .m 22 1, .ln 23 22, .o (.bin 24 .lss (.t 21) (.t 23)), .keep [1, 4, 7, 8, 9, 24]] (.cond (.t 24) (.skip) (.gh (.exit 0)))) (.seq (.block 1 (.reg [.m 27 8, .m 28 1, .m 29 9, .ia 30 3 28 29, .o (.load 31 true 3 (.t 30)), .call none (some 32) 129 [.tmp 7, .tmp 31], .o (.bslice 33 5 [.int .i64 0, .slice none 0 0, .slice none 0 0, .int .i64 0, .int .i64 0] 1 [(0, .tmp 32)]), .gh, .o (.app 34 5 72 true (.t 27) (.t 33)), .m 8 34, .keep [1, 4, 7, 8, 9]])) (.reg [.m 25 9, .o (.bin 26 .add (.t 25) (.k 1)), .m 9 26, .keep [1, 4, 7, 8, 9]]))
def C86 : AC := .sr [.o (.box 2 (.t 0)), .o (.alloc 4 [.int .u32 0, .int .i64 0, .int .i64 0, .int .i64 0, .int .i64 0, .int .i64 0, .slice none 0 0, .int .i64 0, .int .i64 0, .int .i64 0, .int .i64 0, .int .i64 0, .bool false]), .gh, .o (.mv 5 (.const (.slice none 0 0))), .gh, .o (.mv 6 (.k 0)), .keep [1, 2, 4]] (.seq (.sr [.o (.load 10 true 6 (.t 2)), .call none (some 11) 130 [.tmp 10], .o (.un 12 .not (.t 11)), .keep [1, 2, 4, 12]] (.cond (.t 12) (.sr [.o (.build 13 [.int .u32 0, .int .i64 0, .int .i64 0, .int .i64 0, .int .i64 0, .int .i64 0, .slice none 0 0, .int .i64 0, .int .i64 0, .int .i64 0, .int .i64 0, .int .i64 0, .bool false] []), .gh, .st 13 4 13, .o (.mv 5 (.const (.slice none 0 0))), .gh, .o (.mv 6 (.k 17)), .keep [4, 5, 6]] (.ret)) (.skip))) (.seq (.sr [.m 14 1, .ln 15 14, .o (.bin 16 .gtr (.t 15) (.k 4000)), .keep [1, 2, 4, 16]] (.cond (.t 16) (.sr [.o (.build 17 [.int .u32 0, .int .i64 0, .int .i64 0, .int .i64 0, .int .i64 0, .int .i64 0, .slice none 0 0, .int .i64 0, .int .i64 0, .int .i64 0, .int .i64 0, .int .i64 0, .bool false] []), .gh, .st 13 4 17, .o (.mv 5 (.const (.slice none 0 0))), .gh, .o (.mv 6 (.k 5)), .keep [4, 5, 6]] (.ret)) (.skip))) (.sr [.o (.load 18 true 6 (.t 2)), .call none (some 19) 127 [.tmp 18], .o (.alloc 7 [.int .u32 0, .int .i64 0, .int .i64 0, .int .i64 0, .int .i64 0, .int .i64 0, .slice none 0 0, .int .i64 0, .int .i64 0, .int .i64 0, .int .i64 0, .int .i64 0, .bool false]), .gh, .st 13 7 19, .keep [1, 4, 7]] (.sr [.o (.bslice 20 5 [.int .i64 0, .slice none 0 0, .slice none 0 0, .int .i64 0, .int .i64 0] 0 []), .gh, .m 8 20, .keep [1, 4, 7, 8]] (.seq (.sr [.o (.mv 9 (.k 0)), .keep [1, 4, 7, 8, 9]] (.block 0 (.gh (.loop (.ga C86_l0))))) (.sr [.o (.load 35 true 13 (.t 7)), .m 36 8, .st 13 4 35, .m 5 36, .o (.mv 6 (.k 0)), .keep [4, 5, 6]] (.ret)))))))
def r86 : List RV := [.cell 4 true 13, .tmp 5, .tmp 6]
theorem k86 : compC Try.prog 37 C86 (Try.f86.body.getD .skip) = some C86.erase := by kernel_rfl
theorem q86 : rvsOf Try.prog Try.f86.results.toList = some r86 := by kernel_rfl
def spec_l4Run.l0 (l1 : List S63) (x0_1 : Int) (x0_2 : Int) (x0_3 : Int) (x0_4 : Int) (x0_5 : Int) (x0_6 : Int) (x0_7 : (List Int)) (x0_8 : Int) (x0_9 : Int) (x0_10 : Int) (x0_11 : Int) (x0_12 : Int) (x0_13 : Bool) (x0_14 : Int) (x0_15 : Int) (x0_16 : Int) (x0_17 : Int) (x0_18 : Int) (x0_19 : Int) (x0_0 : Int) (x0_20 : (List Int)) (x0_21 : Int) (x0_22 : Int) (x0_23 : Int) (x0_24 : Int) (x0_25 : Int) (x0_26 : Bool) (x0_27 : (List S66)) : Option ((List Int) × Int × Int × Int × Int × Int × Bool × (List S66)) := (if x0_0 < (l1.length : Int) then (if 0 ≤ x0_0 ∧ x0_0 < (l1.length : Int) then (spec_l4Step.f x0_14 x0_15 x0_16 x0_17 x0_18 x0_19 x0_20 x0_21 x0_22 x0_23 x0_24 x0_25 x0_26 ((rd z63 l1 x0_0).f0) ((rd z63 l1 x0_0).f1) ((rd z63 l1 x0_0).f2) >>= fun t37 => (if (x0_27.length + 1) * 72 ≤ 140737488355328 then (spec_l4Run.l0 l1 x0_1 x0_2 x0_3 x0_4 x0_5 x0_6 x0_7 x0_8 x0_9 x0_10 x0_11 x0_12 x0_13 x0_14 x0_15 x0_16 x0_17 x0_18 x0_19 (IntKind.i64.wrap (x0_0 + 1)) t37.2.2.2.2.2.1 t37.2.2.2.2.2.2.1 t37.2.2.2.2.2.2.2.1 t37.2.2.2.2.2.2.2.2.1 t37.2.2.2.2.2.2.2.2.2.1 t37.2.2.2.2.2.2.2.2.2.2.1 t37.2.2.2.2.2.2.2.2.2.2.2 (x0_27 ++ ([(⟨t37.1, t37.2.1, t37.2.2.1, t37.2.2.2.1, t37.2.2.2.2.1⟩ : S66)] : List S66))) else none)) else none) else (some (x0_20, x0_21, x0_22, x0_23, x0_24, x0_25, x0_26, x0_27)))
 partial_fixpoint
def spec_l4Run.f (a0_0 : Int) (a0_1 : Int) (a0_2 : Int) (a0_3 : Int) (a0_4 : Int) (a0_5 : Int) (l1 : List S63) : Option (Int × Int × Int × Int × Int × Int × (List Int) × Int × Int × Int × Int × Int × Bool × (List S66) × Int) := (spec_l4ConfigOK.f a0_0 a0_1 a0_2 a0_3 a0_4 a0_5 >>= fun t4 => (if (!t4) = true then (some (0, 0, 0, 0, 0, 0, ([] : List Int), 0, 0, 0, 0, 0, false, ([] : List S66), 17)) else (if (l1.length : Int) > 4000 then (some (0, 0, 0, 0, 0, 0, ([] : List Int), 0, 0, 0, 0, 0, false, ([] : List S66), 5)) else (spec_l4Begin.f a0_0 a0_1 a0_2 a0_3 a0_4 a0_5 >>= fun t19 => (spec_l4Run.l0 l1 0 0 0 0 0 0 ([] : List Int) 0 0 0 0 0 false t19.1 t19.2.1 t19.2.2.1 t19.2.2.2.1 t19.2.2.2.2.1 t19.2.2.2.2.2.1 0 t19.2.2.2.2.2.2.1 t19.2.2.2.2.2.2.2.1 t19.2.2.2.2.2.2.2.2.1 t19.2.2.2.2.2.2.2.2.2.1 t19.2.2.2.2.2.2.2.2.2.2.1 t19.2.2.2.2.2.2.2.2.2.2.2.1 t19.2.2.2.2.2.2.2.2.2.2.2.2 ([] : List S66) >>= fun (y51 : ((List Int) × Int × Int × Int × Int × Int × Bool × (List S66))) => (some (t19.1, t19.2.1, t19.2.2.1, t19.2.2.2.1, t19.2.2.2.2.1, t19.2.2.2.2.2.1, y51.1, y51.2.1, y51.2.2.1, y51.2.2.2.1, y51.2.2.2.2.1, y51.2.2.2.2.2.1, y51.2.2.2.2.2.2.1, y51.2.2.2.2.2.2.2, 0)))))))
def spec_l4Run.l0_M (cs0 : List Cell) (o0 : Nat) (l1 : List S63) (hv0 : Vw c63 3 cs0 o0 l1) (x0_1 : Int) (x0_2 : Int) (x0_3 : Int) (x0_4 : Int) (x0_5 : Int) (x0_6 : Int) (x0_7 : (List Int)) (x0_8 : Int) (x0_9 : Int) (x0_10 : Int) (x0_11 : Int) (x0_12 : Int) (x0_13 : Bool) (x0_14 : Int) (x0_15 : Int) (x0_16 : Int) (x0_17 : Int) (x0_18 : Int) (x0_19 : Int) (x0_0 : Int) (x0_20 : (List Int)) (x0_21 : Int) (x0_22 : Int) (x0_23 : Int) (x0_24 : Int) (x0_25 : Int) (x0_26 : Bool) (x0_27 : (List S66)) (y : ((List Int) × Int × Int × Int × Int × Int × Bool × (List S66))) : Prop := ∀ (K : AE → St → Prop), (K (.exit 0) ⟨[(4, .c (.ptr (.tmp 4 0) [] 0)), (7, .c (.ptr (.tmp 7 0) [] 0)), (8, .c (.ref (.tmp 20 0) [] 0 y.2.2.2.2.2.2.2.length))], [(.arg 0, ⟨.fz, 3, cs0⟩), (.tmp 4 0, ⟨.box, 0, [.sc (.int .u32 x0_1), .sc (.int .i64 x0_2), .sc (.int .i64 x0_3), .sc (.int .i64 x0_4), .sc (.int .i64 x0_5), .sc (.int .i64 x0_6), .own 1 x0_7.length (encL c_i64 x0_7), .sc (.int .i64 x0_8), .sc (.int .i64 x0_9), .sc (.int .i64 x0_10), .sc (.int .i64 x0_11), .sc (.int .i64 x0_12), .sc (.bool x0_13)]⟩), (.tmp 7 0, ⟨.box, 0, [.sc (.int .u32 x0_14), .sc (.int .i64 x0_15), .sc (.int .i64 x0_16), .sc (.int .i64 x0_17), .sc (.int .i64 x0_18), .sc (.int .i64 x0_19), .own 1 y.1.length (encL c_i64 y.1), .sc (.int .i64 y.2.1), .sc (.int .i64 y.2.2.1), .sc (.int .i64 y.2.2.2.1), .sc (.int .i64 y.2.2.2.2.1), .sc (.int .i64 y.2.2.2.2.2.1), .sc (.bool y.2.2.2.2.2.2.1)]⟩), (.tmp 20 0, ⟨.lst, 5, encL c66 y.2.2.2.2.2.2.2⟩)], [], []⟩) → loopS Try.prog 37 (.ga C86_l0) K ⟨[(1, .c (.ref (.arg 0) [] o0 l1.length)), (4, .c (.ptr (.tmp 4 0) [] 0)), (7, .c (.ptr (.tmp 7 0) [] 0)), (8, .c (.ref (.tmp 20 0) [] 0 x0_27.length)), (9, .c (.sc (.int .i64 x0_0)))], [(.arg 0, ⟨.fz, 3, cs0⟩), (.tmp 4 0, ⟨.box, 0, [.sc (.int .u32 x0_1), .sc (.int .i64 x0_2), .sc (.int .i64 x0_3), .sc (.int .i64 x0_4), .sc (.int .i64 x0_5), .sc (.int .i64 x0_6), .own 1 x0_7.length (encL c_i64 x0_7), .sc (.int .i64 x0_8), .sc (.int .i64 x0_9), .sc (.int .i64 x0_10), .sc (.int .i64 x0_11), .sc (.int .i64 x0_12), .sc (.bool x0_13)]⟩), (.tmp 7 0, ⟨.box, 0, [.sc (.int .u32 x0_14), .sc (.int .i64 x0_15), .sc (.int .i64 x0_16), .sc (.int .i64 x0_17), .sc (.int .i64 x0_18), .sc (.int .i64 x0_19), .own 1 x0_20.length (encL c_i64 x0_20), .sc (.int .i64 x0_21), .sc (.int .i64 x0_22), .sc (.int .i64 x0_23), .sc (.int .i64 x0_24), .sc (.int .i64 x0_25), .sc (.bool x0_26)]⟩), (.tmp 20 0, ⟨.lst, 5, encL c66 x0_27⟩)], [], []⟩
theorem spec_l4Run.l0_walk (cs0 : List Cell) (o0 : Nat) (l1 : List S63) (hv0 : Vw c63 3 cs0 o0 l1) (x0_1 : Int) (x0_2 : Int) (x0_3 : Int) (x0_4 : Int) (x0_5 : Int) (x0_6 : Int) (x0_7 : (List Int)) (x0_8 : Int) (x0_9 : Int) (x0_10 : Int) (x0_11 : Int) (x0_12 : Int) (x0_13 : Bool) (x0_14 : Int) (x0_15 : Int) (x0_16 : Int) (x0_17 : Int) (x0_18 : Int) (x0_19 : Int) (x0_0 : Int) (x0_20 : (List Int)) (x0_21 : Int) (x0_22 : Int) (x0_23 : Int) (x0_24 : Int) (x0_25 : Int) (x0_26 : Bool) (x0_27 : (List S66)) (y : ((List Int) × Int × Int × Int × Int × Int × Bool × (List S66))) (h : spec_l4Run.l0 l1 x0_1 x0_2 x0_3 x0_4 x0_5 x0_6 x0_7 x0_8 x0_9 x0_10 x0_11 x0_12 x0_13 x0_14 x0_15 x0_16 x0_17 x0_18 x0_19 x0_0 x0_20 x0_21 x0_22 x0_23 x0_24 x0_25 x0_26 x0_27 = some y) : spec_l4Run.l0_M cs0 o0 l1 hv0 x0_1 x0_2 x0_3 x0_4 x0_5 x0_6 x0_7 x0_8 x0_9 x0_10 x0_11 x0_12 x0_13 x0_14 x0_15 x0_16 x0_17 x0_18 x0_19 x0_0 x0_20 x0_21 x0_22 x0_23 x0_24 x0_25 x0_26 x0_27 y := by
 refine spec_l4Run.l0.partial_correctness l1 x0_1 x0_2 x0_3 x0_4 x0_5 x0_6 x0_7 x0_8 x0_9 x0_10 x0_11 x0_12 x0_13 x0_14 x0_15 x0_16 x0_17 x0_18 x0_19 (motive := fun x0_0 x0_20 x0_21 x0_22 x0_23 x0_24 x0_25 x0_26 x0_27 y => spec_l4Run.l0_M cs0 o0 l1 hv0 x0_1 x0_2 x0_3 x0_4 x0_5 x0_6 x0_7 x0_8 x0_9 x0_10 x0_11 x0_12 x0_13 x0_14 x0_15 x0_16 x0_17 x0_18 x0_19 x0_0 x0_20 x0_21 x0_22 x0_23 x0_24 x0_25 x0_26 x0_27 y) ?_ x0_0 x0_20 x0_21 x0_22 x0_23 x0_24 x0_25 x0_26 x0_27 y h
 clear h
 unfold spec_l4Run.l0_M
 intro rec ih x0_0 x0_20 x0_21 x0_22 x0_23 x0_24 x0_25 x0_26 x0_27 y h K hx0
 refine loop_unroll (ga_k fun G0 G0n G0r G0x => ?_)
 unfold C86_l0
 refine seq_k fun J30 hJ30 => ?_
 refine sr_k fun J31 hJ31 => ?_
 simp +decide only [Nat.reduceAdd, Nat.reduceMul, Int.reduceToNat, ak]
 refine hJ31 _ ?_
 refine cond_k (b := decide (x0_0 < (l1.length : Int))) rfl (fun c32 => ?_) (fun c32 => ?_)
 ·replace c32 := of_decide_eq_true c32; rw [if_pos c32] at h
  refine hJ30 _ ?_
  refine seq_k fun J33 hJ33 => ?_
  refine block_k fun B34 B34n B34x B34r B34j => ?_
  refine reg_k ?_
  obtain ⟨b35, h⟩ := of_guard h
  have g36 : (List.drop (o0 + x0_0.toNat * 3) (cs0)).take 3 = [.sc (.int .i64 ((rd z63 l1 x0_0).f0)), .sc (.int .i64 ((rd z63 l1 x0_0).f1)), .sc (.int .u32 ((rd z63 l1 x0_0).f2))] := hv0.stretch z63 b35.1 b35.2
  simp +decide only [Nat.reduceAdd, Nat.reduceMul, Int.reduceToNat, ak, b35, g36]
  obtain ⟨t37, h38, h⟩ := of_bind h
  refine cm [pN (.arg 0) (.tmp 7 0) .box] (spec_l4Step.tri x0_14 x0_15 x0_16 x0_17 x0_18 x0_19 x0_20 x0_21 x0_22 x0_23 x0_24 x0_25 x0_26 ((rd z63 l1 x0_0).f0) ((rd z63 l1 x0_0).f1) ((rd z63 l1 x0_0).f2) _ h38) (fun hl38 => ?_)
  refine call_st (s2 := [(.arg 0, ⟨.fz, 3, cs0⟩), (.tmp 4 0, ⟨.box, 0, [.sc (.int .u32 x0_1), .sc (.int .i64 x0_2), .sc (.int .i64 x0_3), .sc (.int .i64 x0_4), .sc (.int .i64 x0_5), .sc (.int .i64 x0_6), .own 1 x0_7.length (encL c_i64 x0_7), .sc (.int .i64 x0_8), .sc (.int .i64 x0_9), .sc (.int .i64 x0_10), .sc (.int .i64 x0_11), .sc (.int .i64 x0_12), .sc (.bool x0_13)]⟩), (.tmp 7 0, ⟨.box, 0, [.sc (.int .u32 x0_14), .sc (.int .i64 x0_15), .sc (.int .i64 x0_16), .sc (.int .i64 x0_17), .sc (.int .i64 x0_18), .sc (.int .i64 x0_19), .own 1 x0_20.length (encL c_i64 x0_20), .sc (.int .i64 x0_21), .sc (.int .i64 x0_22), .sc (.int .i64 x0_23), .sc (.int .i64 x0_24), .sc (.int .i64 x0_25), .sc (.bool x0_26)]⟩), (.tmp 20 0, ⟨.lst, 5, encL c66 x0_27⟩)]) (s4 := [(.arg 0, ⟨.fz, 3, cs0⟩), (.tmp 4 0, ⟨.box, 0, [.sc (.int .u32 x0_1), .sc (.int .i64 x0_2), .sc (.int .i64 x0_3), .sc (.int .i64 x0_4), .sc (.int .i64 x0_5), .sc (.int .i64 x0_6), .own 1 x0_7.length (encL c_i64 x0_7), .sc (.int .i64 x0_8), .sc (.int .i64 x0_9), .sc (.int .i64 x0_10), .sc (.int .i64 x0_11), .sc (.int .i64 x0_12), .sc (.bool x0_13)]⟩), (.tmp 7 0, ⟨.box, 0, [.sc (.int .u32 x0_14), .sc (.int .i64 x0_15), .sc (.int .i64 x0_16), .sc (.int .i64 x0_17), .sc (.int .i64 x0_18), .sc (.int .i64 x0_19), .own 1 t37.2.2.2.2.2.1.length (encL c_i64 t37.2.2.2.2.2.1), .sc (.int .i64 t37.2.2.2.2.2.2.1), .sc (.int .i64 t37.2.2.2.2.2.2.2.1), .sc (.int .i64 t37.2.2.2.2.2.2.2.2.1), .sc (.int .i64 t37.2.2.2.2.2.2.2.2.2.1), .sc (.int .i64 t37.2.2.2.2.2.2.2.2.2.2.1), .sc (.bool t37.2.2.2.2.2.2.2.2.2.2.2)]⟩), (.tmp 20 0, ⟨.lst, 5, encL c66 x0_27⟩), (.tmp 32 1, ⟨.lst, 1, encL c_i64 t37.2.2.1⟩), (.tmp 32 0, ⟨.lst, 3, encL c68 t37.2.1⟩)]) (t' := [(1, .c (.ref (.arg 0) [] o0 l1.length)), (4, .c (.ptr (.tmp 4 0) [] 0)), (7, .c (.ptr (.tmp 7 0) [] 0)), (8, .c (.ref (.tmp 20 0) [] 0 x0_27.length)), (9, .c (.sc (.int .i64 x0_0))), (24, .c (.sc (.bool (decide (x0_0 < (l1.length : Int)))))), (27, .c (.ref (.tmp 20 0) [] 0 x0_27.length)), (28, .c (.ref (.arg 0) [] o0 l1.length)), (29, .c (.sc (.int .i64 x0_0))), (30, .c (.ptr (.arg 0) [] (o0 + x0_0.toNat * 3))), (31, .g [.sc (.int .i64 ((rd z63 l1 x0_0).f0)), .sc (.int .i64 ((rd z63 l1 x0_0).f1)), .sc (.int .u32 ((rd z63 l1 x0_0).f2))])]) (m1' := []) (m2' := []) (v' := .g [.sc (.int .i64 t37.1), .ref (.tmp 32 0) [] 0 t37.2.1.length, .ref (.tmp 32 1) [] 0 t37.2.2.1.length, .sc (.int .i64 t37.2.2.2.1), .sc (.int .i64 t37.2.2.2.2.1)]) (by first | rfl | simp only [reduceCtorEq, Nat.reduceEqDiff, ak, akF, List.contains_nil, List.contains_cons, Nat.reduceBEq, b35]) (mrgL_whole (new' := [.sc (.int .u32 x0_14), .sc (.int .i64 x0_15), .sc (.int .i64 x0_16), .sc (.int .i64 x0_17), .sc (.int .i64 x0_18), .sc (.int .i64 x0_19), .own 1 t37.2.2.2.2.2.1.length (encL c_i64 t37.2.2.2.2.2.1), .sc (.int .i64 t37.2.2.2.2.2.2.1), .sc (.int .i64 t37.2.2.2.2.2.2.2.1), .sc (.int .i64 t37.2.2.2.2.2.2.2.2.1), .sc (.int .i64 t37.2.2.2.2.2.2.2.2.2.1), .sc (.int .i64 t37.2.2.2.2.2.2.2.2.2.2.1), .sc (.bool t37.2.2.2.2.2.2.2.2.2.2.2)]) (mrgL_nil' _ _ _) rfl (by rfl) (.inl ⟨rfl, by first | rfl | simp only [reduceCtorEq, Nat.reduceEqDiff, ak, akF, Nat.zero_add, List.append_nil, b35]⟩)) (by rfl) (by first | rfl | simp only [reduceCtorEq, Nat.reduceEqDiff, ak, akF, List.contains_nil, List.contains_cons, Nat.reduceBEq, b35]) (by rfl) (by rfl) (by first | rfl | simp only [reduceCtorEq, Nat.reduceEqDiff, ak, akF, Nat.zero_add, List.append_nil, b35]) ?_
  have g40 : (List.replicate 1 ([.int .i64 0, .slice none 0 0, .slice none 0 0, .int .i64 0, .int .i64 0] : List Value)).flatten = [.int .i64 0, .slice none 0 0, .slice none 0 0, .int .i64 0, .int .i64 0] := rfl
  have g41 : (encL c68 t37.2.1).length = t37.2.1.length * 3 := by simp [encL_length c68_w]
  have g42 : (encL c_i64 t37.2.2.1).length = t37.2.2.1.length * 1 := by simp [encL_length c_i64_w]
  have g43 : (⟨.lst, 5, [.sc (.int .i64 t37.1), .own 3 t37.2.1.length (encL c68 t37.2.1), .own 1 t37.2.2.1.length (encL c_i64 t37.2.2.1), .sc (.int .i64 t37.2.2.2.1), .sc (.int .i64 t37.2.2.2.2.1)]⟩ : Root) = ⟨.lst, 5, encL c66 ([(⟨t37.1, t37.2.1, t37.2.2.1, t37.2.2.2.1, t37.2.2.2.2.1⟩ : S66)] : List S66)⟩ := rfl
  have g44 : ([(⟨t37.1, t37.2.1, t37.2.2.1, t37.2.2.2.1, t37.2.2.2.2.1⟩ : S66)] : List S66).length = 1 := rfl
  simp +decide only [Nat.reduceAdd, Nat.reduceMul, Int.reduceToNat, ak, g40, g41, g42, g43, g44]
  refine gho_k (Weak.refl _ _) ?_
  have g45 : (encL c66 ([(⟨t37.1, t37.2.1, t37.2.2.1, t37.2.2.2.1, t37.2.2.2.2.1⟩ : S66)] : List S66)).length = 1 * 5 := by simp [encL_length c66_w]
  have g46 : (encL c66 ([(⟨t37.1, t37.2.1, t37.2.2.1, t37.2.2.2.1, t37.2.2.2.2.1⟩ : S66)] : List S66)).all nd = true := rfl
  obtain ⟨b47, h⟩ := of_guard h
  have g48 : appLim x0_27.length 1 72 := ⟨b47, by have := b47; omega⟩
  have g49 : (encL c66 x0_27).length = x0_27.length * 5 := by simp [encL_length c66_w]
  have g50 : encL c66 x0_27 ++ encL c66 ([(⟨t37.1, t37.2.1, t37.2.2.1, t37.2.2.2.1, t37.2.2.2.2.1⟩ : S66)] : List S66) = encL c66 (x0_27 ++ ([(⟨t37.1, t37.2.1, t37.2.2.1, t37.2.2.2.1, t37.2.2.2.2.1⟩ : S66)] : List S66)) := (encL_append _ _).symm
  simp +decide only [Nat.reduceAdd, Nat.reduceMul, Int.reduceToNat, ak, g45, g46, g48, g49, g50]
  refine B34n _ ?_
  refine hJ33 _ ?_
  refine reg_k ?_
  simp +decide only [Nat.reduceAdd, Nat.reduceMul, Int.reduceToNat, ak]
  refine G0n _ _ (wj [1, 4, 7, 8, 9] [pI (.arg 0) .fz, pI (.tmp 4 0) .box, pI (.tmp 7 0) .box, pI (.tmp 20 0) .lst]) (ih _ _ _ _ _ _ _ _ _ _ h K hx0)
 ·replace c32 := of_decide_eq_false c32; rw [if_neg c32] at h
  obtain rfl := Option.some.inj h
  refine gh_k (wk [4, 7, 8] [pI (.arg 0) .fz, pI (.tmp 4 0) .box, pI (.tmp 7 0) .box, pI (.tmp 20 0) .lst]) ?_
  refine G0x _ _ ?_
  exact hx0
theorem spec_l4Run.tri (cs0 : List Cell) (o0 : Nat) (l1 : List S63) (hv0 : Vw c63 3 cs0 o0 l1) (a0_0 : Int) (a0_1 : Int) (a0_2 : Int) (a0_3 : Int) (a0_4 : Int) (a0_5 : Int) (r : Int × Int × Int × Int × Int × Int × (List Int) × Int × Int × Int × Int × Int × Bool × (List S66) × Int) (h : spec_l4Run.f a0_0 a0_1 a0_2 a0_3 a0_4 a0_5 l1 = some r) : Tri Try.prog 86 [.g [.sc (.int .u32 a0_0), .sc (.int .i64 a0_1), .sc (.int .i64 a0_2), .sc (.int .i64 a0_3), .sc (.int .i64 a0_4), .sc (.int .i64 a0_5)], .c (.ref (.arg 0) [] o0 l1.length)] [(.arg 0, ⟨.fz, 3, cs0⟩)] (fun o => o = ⟨.tup [(true, [.sc (.int .u32 r.1), .sc (.int .i64 r.2.1), .sc (.int .i64 r.2.2.1), .sc (.int .i64 r.2.2.2.1), .sc (.int .i64 r.2.2.2.2.1), .sc (.int .i64 r.2.2.2.2.2.1), .ref (.res 0) [] 0 r.2.2.2.2.2.2.1.length, .sc (.int .i64 r.2.2.2.2.2.2.2.1), .sc (.int .i64 r.2.2.2.2.2.2.2.2.1), .sc (.int .i64 r.2.2.2.2.2.2.2.2.2.1), .sc (.int .i64 r.2.2.2.2.2.2.2.2.2.2.1), .sc (.int .i64 r.2.2.2.2.2.2.2.2.2.2.2.1), .sc (.bool r.2.2.2.2.2.2.2.2.2.2.2.2.1)]), (false, [.ref (.res 1) [] 0 r.2.2.2.2.2.2.2.2.2.2.2.2.2.1.length]), (false, [.sc (.int .i64 r.2.2.2.2.2.2.2.2.2.2.2.2.2.2)])], [(.arg 0, ⟨.fz, 3, cs0⟩), (.res 0, ⟨.lst, 1, encL c_i64 r.2.2.2.2.2.2.1⟩), (.res 1, ⟨.lst, 5, encL c66 r.2.2.2.2.2.2.2.2.2.2.2.2.2.1⟩)], [], []⟩) := by
 refine tri_of_body (ac := C86) (xs := r86) Try.func86 (show Try.f86.body = some (Try.f86.body.getD .skip) from rfl) k86 q86 (Nat.le_of_ble_eq_true rfl) ?_
 refine body_of fun K hKn hKr => ?_
 unfold spec_l4Run.f at h
 unfold C86
 simp only [initT, Nat.reduceAdd]
 refine sr_k fun J1 hJ1 => ?_
 simp +decide only [Nat.reduceAdd, Nat.reduceMul, Int.reduceToNat, ak]
 refine gho_k (Weak.own (.tmp 4 0) (cs' := [.sc (.int .u32 0), .sc (.int .i64 0), .sc (.int .i64 0), .sc (.int .i64 0), .sc (.int .i64 0), .sc (.int .i64 0), .own 1 (([] : List Int).length) (encL c_i64 ([] : List Int)), .sc (.int .i64 0), .sc (.int .i64 0), .sc (.int .i64 0), .sc (.int .i64 0), .sc (.int .i64 0), .sc (.bool false)]) rfl ⟨.inl rfl, .inl rfl, .inl rfl, .inl rfl, .inl rfl, .inl rfl, .inr ⟨rfl, _, rfl⟩, .inl rfl, .inl rfl, .inl rfl, .inl rfl, .inl rfl, .inl rfl, trivial⟩) ?_
 simp +decide only [Nat.reduceAdd, Nat.reduceMul, Int.reduceToNat, ak]
 refine gho_k (Weak.nm' 5 (.tmp 5 20) 5 (encL c66 ([] : List S66)) rfl rfl rfl) ?_
 simp +decide only [Nat.reduceAdd, Nat.reduceMul, Int.reduceToNat, ak]
 refine hJ1 _ ?_
 refine seq_k fun J2 hJ2 => ?_
 refine sr_k fun J3 hJ3 => ?_
 simp +decide only [Nat.reduceAdd, Nat.reduceMul, Int.reduceToNat, ak]
 obtain ⟨t4, h5, h⟩ := of_bind h
 refine cm [] (spec_l4ConfigOK.tri a0_0 a0_1 a0_2 a0_3 a0_4 a0_5 _ h5) (fun hl5 => ?_)
 refine cs (mN ..) ?_ (s4 := [(.arg 0, ⟨.fz, 3, cs0⟩), (.tmp 2 0, ⟨.box, 0, [.sc (.int .u32 a0_0), .sc (.int .i64 a0_1), .sc (.int .i64 a0_2), .sc (.int .i64 a0_3), .sc (.int .i64 a0_4), .sc (.int .i64 a0_5)]⟩), (.tmp 4 0, ⟨.box, 0, [.sc (.int .u32 0), .sc (.int .i64 0), .sc (.int .i64 0), .sc (.int .i64 0), .sc (.int .i64 0), .sc (.int .i64 0), .own 1 (([] : List Int).length) (encL c_i64 ([] : List Int)), .sc (.int .i64 0), .sc (.int .i64 0), .sc (.int .i64 0), .sc (.int .i64 0), .sc (.int .i64 0), .sc (.bool false)]⟩), (.tmp 5 20, ⟨.lst, 5, encL c66 ([] : List S66)⟩)])
 simp +decide only [Nat.reduceAdd, Nat.reduceMul, Int.reduceToNat, ak]
 refine hJ3 _ ?_
 refine cond_k (b := !t4) rfl (fun c9 => ?_) (fun c9 => ?_)
 ·rw [if_pos c9] at h
  refine sr_k fun J10 hJ10 => ?_
  simp +decide only [Nat.reduceAdd, Nat.reduceMul, Int.reduceToNat, ak]
  refine gho_k (Weak.nmg' 13 6 (.tmp 13 26) 1 (encL c_i64 ([] : List Int)) rfl rfl rfl rfl) ?_
  have g11 : (encL c_i64 ([] : List Int)).length = 0 * 1 := by simp [encL_length c_i64_w]
  simp +decide only [Nat.reduceAdd, Nat.reduceMul, Int.reduceToNat, ak, g11]
  refine gho_k ((Weak.drop [.tmp 5 20]).trans (Weak.nm' 5 (.tmp 5 20) 5 (encL c66 ([] : List S66)) rfl rfl rfl)) ?_
  simp +decide only [Nat.reduceAdd, Nat.reduceMul, Int.reduceToNat, ak]
  refine hJ10 _ ?_
  obtain rfl := Option.some.inj h
  refine hKr _ ⟨_, rfl, [⟨(.tmp 4 0), [6], none, .lst⟩, ⟨(.tmp 5 20), [], none, .lst⟩], _, rfl, rfl, ?_⟩
  exact cl
 ·rw [if_neg (Bool.eq_false_iff.1 c9)] at h
  refine hJ2 _ ?_
  refine seq_k fun J12 hJ12 => ?_
  refine sr_k fun J13 hJ13 => ?_
  simp +decide only [Nat.reduceAdd, Nat.reduceMul, Int.reduceToNat, ak]
  refine hJ13 _ ?_
  refine cond_k (b := decide ((l1.length : Int) > 4000)) rfl (fun c15 => ?_) (fun c15 => ?_)
  ·replace c15 := of_decide_eq_true c15; rw [if_pos c15] at h
   refine sr_k fun J16 hJ16 => ?_
   simp +decide only [Nat.reduceAdd, Nat.reduceMul, Int.reduceToNat, ak]
   refine gho_k (Weak.nmg' 17 6 (.tmp 17 26) 1 (encL c_i64 ([] : List Int)) rfl rfl rfl rfl) ?_
   have g17 : (encL c_i64 ([] : List Int)).length = 0 * 1 := by simp [encL_length c_i64_w]
   simp +decide only [Nat.reduceAdd, Nat.reduceMul, Int.reduceToNat, ak, g17]
   refine gho_k ((Weak.drop [.tmp 5 20]).trans (Weak.nm' 5 (.tmp 5 20) 5 (encL c66 ([] : List S66)) rfl rfl rfl)) ?_
   simp +decide only [Nat.reduceAdd, Nat.reduceMul, Int.reduceToNat, ak]
   refine hJ16 _ ?_
   obtain rfl := Option.some.inj h
   refine hKr _ ⟨_, rfl, [⟨(.tmp 4 0), [6], none, .lst⟩, ⟨(.tmp 5 20), [], none, .lst⟩], _, rfl, rfl, ?_⟩
   exact cl
  ·replace c15 := of_decide_eq_false c15; rw [if_neg c15] at h
   refine hJ12 _ ?_
   refine sr_k fun J18 hJ18 => ?_
   simp +decide only [Nat.reduceAdd, Nat.reduceMul, Int.reduceToNat, ak]
   obtain ⟨t19, h20, h⟩ := of_bind h
   refine cm [] (spec_l4Begin.tri a0_0 a0_1 a0_2 a0_3 a0_4 a0_5 _ h20) (fun hl20 => ?_)
   refine ct (.g [.sc (.int .u32 t19.1), .sc (.int .i64 t19.2.1), .sc (.int .i64 t19.2.2.1), .sc (.int .i64 t19.2.2.2.1), .sc (.int .i64 t19.2.2.2.2.1), .sc (.int .i64 t19.2.2.2.2.2.1), .ref (.tmp 19 0) [] 0 t19.2.2.2.2.2.2.1.length, .sc (.int .i64 t19.2.2.2.2.2.2.2.1), .sc (.int .i64 t19.2.2.2.2.2.2.2.2.1), .sc (.int .i64 t19.2.2.2.2.2.2.2.2.2.1), .sc (.int .i64 t19.2.2.2.2.2.2.2.2.2.2.1), .sc (.int .i64 t19.2.2.2.2.2.2.2.2.2.2.2.1), .sc (.bool t19.2.2.2.2.2.2.2.2.2.2.2.2)]) (mN ..) ?_ (s4 := [(.arg 0, ⟨.fz, 3, cs0⟩), (.tmp 2 0, ⟨.box, 0, [.sc (.int .u32 a0_0), .sc (.int .i64 a0_1), .sc (.int .i64 a0_2), .sc (.int .i64 a0_3), .sc (.int .i64 a0_4), .sc (.int .i64 a0_5)]⟩), (.tmp 4 0, ⟨.box, 0, [.sc (.int .u32 0), .sc (.int .i64 0), .sc (.int .i64 0), .sc (.int .i64 0), .sc (.int .i64 0), .sc (.int .i64 0), .own 1 (([] : List Int).length) (encL c_i64 ([] : List Int)), .sc (.int .i64 0), .sc (.int .i64 0), .sc (.int .i64 0), .sc (.int .i64 0), .sc (.int .i64 0), .sc (.bool false)]⟩), (.tmp 5 20, ⟨.lst, 5, encL c66 ([] : List S66)⟩), (.tmp 19 0, ⟨.lst, 1, encL c_i64 t19.2.2.2.2.2.2.1⟩)])
   simp +decide only [Nat.reduceAdd, Nat.reduceMul, Int.reduceToNat, ak]
   refine gho_k (Weak.own (.tmp 7 0) (cs' := [.sc (.int .u32 0), .sc (.int .i64 0), .sc (.int .i64 0), .sc (.int .i64 0), .sc (.int .i64 0), .sc (.int .i64 0), .own 1 (([] : List Int).length) (encL c_i64 ([] : List Int)), .sc (.int .i64 0), .sc (.int .i64 0), .sc (.int .i64 0), .sc (.int .i64 0), .sc (.int .i64 0), .sc (.bool false)]) rfl ⟨.inl rfl, .inl rfl, .inl rfl, .inl rfl, .inl rfl, .inl rfl, .inr ⟨rfl, _, rfl⟩, .inl rfl, .inl rfl, .inl rfl, .inl rfl, .inl rfl, .inl rfl, trivial⟩) ?_
   have g22 : (encL c_i64 t19.2.2.2.2.2.2.1).length = t19.2.2.2.2.2.2.1.length * 1 := by simp [encL_length c_i64_w]
   simp +decide only [Nat.reduceAdd, Nat.reduceMul, Int.reduceToNat, ak, g22]
   refine hJ18 _ ?_
   refine sr_k fun J23 hJ23 => ?_
   have g24 : (List.replicate 0 ([.int .i64 0, .slice none 0 0, .slice none 0 0, .int .i64 0, .int .i64 0] : List Value)).flatten = [] := rfl
   have g25 : (⟨.lst, 5, []⟩ : Root) = ⟨.lst, 5, encL c66 ([] : List S66)⟩ := rfl
   have g26 : ([] : List S66).length = 0 := rfl
   simp +decide only [Nat.reduceAdd, Nat.reduceMul, Int.reduceToNat, ak, g24, g25, g26]
   refine gho_k (Weak.refl _ _) ?_
   simp +decide only [Nat.reduceAdd, Nat.reduceMul, Int.reduceToNat, ak]
   refine hJ23 _ ?_
   refine seq_k fun J27 hJ27 => ?_
   refine sr_k fun J28 hJ28 => ?_
   simp +decide only [Nat.reduceAdd, Nat.reduceMul, Int.reduceToNat, ak]
   refine hJ28 _ ?_
   refine block_k fun B29 B29n B29x B29r B29j => ?_
   obtain ⟨y51, h52, h⟩ := of_bind h
   refine gh_k (st' := ⟨[(1, .c (.ref (.arg 0) [] o0 l1.length)), (4, .c (.ptr (.tmp 4 0) [] 0)), (7, .c (.ptr (.tmp 7 0) [] 0)), (8, .c (.ref (.tmp 20 0) [] 0 (([] : List S66).length))), (9, .c (.sc (.int .i64 0)))], [(.arg 0, ⟨.fz, 3, cs0⟩), (.tmp 4 0, ⟨.box, 0, [.sc (.int .u32 0), .sc (.int .i64 0), .sc (.int .i64 0), .sc (.int .i64 0), .sc (.int .i64 0), .sc (.int .i64 0), .own 1 (([] : List Int).length) (encL c_i64 ([] : List Int)), .sc (.int .i64 0), .sc (.int .i64 0), .sc (.int .i64 0), .sc (.int .i64 0), .sc (.int .i64 0), .sc (.bool false)]⟩), (.tmp 7 0, ⟨.box, 0, [.sc (.int .u32 t19.1), .sc (.int .i64 t19.2.1), .sc (.int .i64 t19.2.2.1), .sc (.int .i64 t19.2.2.2.1), .sc (.int .i64 t19.2.2.2.2.1), .sc (.int .i64 t19.2.2.2.2.2.1), .own 1 t19.2.2.2.2.2.2.1.length (encL c_i64 t19.2.2.2.2.2.2.1), .sc (.int .i64 t19.2.2.2.2.2.2.2.1), .sc (.int .i64 t19.2.2.2.2.2.2.2.2.1), .sc (.int .i64 t19.2.2.2.2.2.2.2.2.2.1), .sc (.int .i64 t19.2.2.2.2.2.2.2.2.2.2.1), .sc (.int .i64 t19.2.2.2.2.2.2.2.2.2.2.2.1), .sc (.bool t19.2.2.2.2.2.2.2.2.2.2.2.2)]⟩), (.tmp 20 0, ⟨.lst, 5, encL c66 ([] : List S66)⟩)], [], []⟩) (wk [1, 4, 7, 8, 9] [pI (.arg 0) .fz, pI (.tmp 4 0) .box, pI (.tmp 7 0) .box, pI (.tmp 20 0) .lst] (h := by first | rfl | (simp +decide only [ak, akF]; done) | (simp +decide [ak, akF] <;> omega))) ?_
   rw [e_loop]
   refine spec_l4Run.l0_walk cs0 o0 l1 hv0 0 0 0 0 0 0 ([] : List Int) 0 0 0 0 0 false t19.1 t19.2.1 t19.2.2.1 t19.2.2.2.1 t19.2.2.2.2.1 t19.2.2.2.2.2.1 0 t19.2.2.2.2.2.2.1 t19.2.2.2.2.2.2.2.1 t19.2.2.2.2.2.2.2.2.1 t19.2.2.2.2.2.2.2.2.2.1 t19.2.2.2.2.2.2.2.2.2.2.1 t19.2.2.2.2.2.2.2.2.2.2.2.1 t19.2.2.2.2.2.2.2.2.2.2.2.2 ([] : List S66) _ h52 _ ?_
   refine B29x _ ?_
   refine hJ27 _ ?_
   refine sr_k fun J53 hJ53 => ?_
   simp +decide only [Nat.reduceAdd, Nat.reduceMul, Int.reduceToNat, ak]
   refine hJ53 _ ?_
   obtain rfl := Option.some.inj h
   refine hKr _ ⟨_, rfl, [⟨(.tmp 7 0), [6], none, .lst⟩, ⟨(.tmp 20 0), [], none, .lst⟩], _, rfl, rfl, ?_⟩
   exact cl
end Go.AK
