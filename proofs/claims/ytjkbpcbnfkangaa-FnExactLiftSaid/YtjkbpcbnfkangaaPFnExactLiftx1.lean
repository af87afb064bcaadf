-- PRINTED BY print.sh 35421559b90ae4d0a3588c463048766b98c2df88dd9212a6774a882060cdf62d: not written by this session
import Derived.Test.YtjkbpcbnfkangaaPFnExactLiftx0
namespace Go.Proofs.Ytjkbpcbnfkangaa.PFnExactLift
open Go.RowKit Go.Proofs.YtjkbpcbnfkangaaW.PrintWords Go.Proofs.YtjkbpcbnfkangaaW.PrintLast Go.Proofs.YtjkbpcbnfkangaaW.PrintMore
attribute [local go_sem] max2_int min2_int max_two min_two max_three min_three max_four min_four   -- for this text's walks alone
set_option linter.unusedVariables false
set_option linter.unusedSimpArgs false

/-! ### spec_Lift: function 19 -/
mutual
def spec_Lift.l0 : Nat → Int → Int → Int → Int → Option (Int × Int)
  | 0, _, _, _, _ => none
  | k + 1, x1, x6, x7, x8 => if x8 ≤ (wrap64 (x6 + 1)) then (if (wrap64 ((wrap64 ((wrap64 ((wrap64 (x8 - x6)) * 4294967296)) + (wrap64 (x1)))) - x7)) < (-2147483648) then (spec_Lift.j1 k x1 x6 x7 x8 true) else (spec_Lift.j1 k x1 x6 x7 x8 (decide ((wrap64 ((wrap64 ((wrap64 ((wrap64 (x8 - x6)) * 4294967296)) + (wrap64 (x1)))) - x7)) ≥ 2147483648)))) else (some (0, 4))
def spec_Lift.j1 : Nat → Int → Int → Int → Int → Bool → Option (Int × Int)
  | 0, _, _, _, _, _ => none
  | k + 1, x1, x6, x7, x8, x38 => if x38 = true then (spec_Lift.l0 k x1 x6 x7 (wrap64 (x8 + 1))) else (if x8 < 0 then (some (0, 4)) else (if x8 ≥ 4294967296 then (some (0, 4)) else (some (IntKind.u64.wrap ((IntKind.u64.wrap ((IntKind.u64.wrap (x8)) * 4294967296)) + (IntKind.u64.wrap (x1))), 0))))
end
def spec_Lift.f (k : Nat) (a0 : Int) (a1 : Int) : Option (Int × Int) := spec_Lift.l0 k a1 (wrap64 (a0 / 4294967296)) (wrap64 (Go.bits .and .u64 a0 4294967295)) (wrap64 ((wrap64 (a0 / 4294967296)) - 1))
theorem spec_Lift.mono_l : ∀ k, (∀ y0 y1 y2 y3, LeO (spec_Lift.l0 k y0 y1 y2 y3) (spec_Lift.l0 (k + 1) y0 y1 y2 y3)) ∧ (∀ y0 y1 y2 y3 y4, LeO (spec_Lift.j1 k y0 y1 y2 y3 y4) (spec_Lift.j1 (k + 1) y0 y1 y2 y3 y4))
  | 0 => ⟨fun _ _ _ _ r h => by simp [spec_Lift.l0] at h, fun _ _ _ _ _ r h => by simp [spec_Lift.j1] at h⟩
  | k + 1 => by
    obtain ⟨ih0, ih1⟩ := spec_Lift.mono_l k
    refine ⟨?_, ?_⟩
    · intro y0 y1 y2 y3
      unfold spec_Lift.l0
      repeat' first
      | (with_reducible exact ih0 _ _ _ _)
      | (with_reducible exact ih1 _ _ _ _ _)
      | (with_reducible exact LeO.refl _)
      | (with_reducible exact LeO.none _)
      | (with_reducible refine LeO.ite ?_ ?_)
      | (with_reducible refine LeO.bind ?_ (fun _ => ?_))
      | exact ih0 _ _ _ _
      | exact ih1 _ _ _ _ _
      | exact LeO.none _
      | refine LeO.ite ?_ ?_
      | refine LeO.bind ?_ (fun _ => ?_)
    · intro y0 y1 y2 y3 y4
      unfold spec_Lift.j1
      repeat' first
      | (with_reducible exact ih0 _ _ _ _)
      | (with_reducible exact ih1 _ _ _ _ _)
      | (with_reducible exact LeO.refl _)
      | (with_reducible exact LeO.none _)
      | (with_reducible refine LeO.ite ?_ ?_)
      | (with_reducible refine LeO.bind ?_ (fun _ => ?_))
      | exact ih0 _ _ _ _
      | exact ih1 _ _ _ _ _
      | exact LeO.none _
      | refine LeO.ite ?_ ?_
      | refine LeO.bind ?_ (fun _ => ?_)
theorem spec_Lift.mono : ∀ a0 a1 k, LeO (spec_Lift.f k a0 a1) (spec_Lift.f (k + 1) a0 a1) := by
  intro a0 a1 k
  obtain ⟨ih0, ih1⟩ := spec_Lift.mono_l k
  unfold spec_Lift.f
  repeat' first
      | (with_reducible exact ih0 _ _ _ _)
      | (with_reducible exact ih1 _ _ _ _ _)
      | (with_reducible exact LeO.refl _)
      | (with_reducible exact LeO.none _)
      | (with_reducible refine LeO.ite ?_ ?_)
      | (with_reducible refine LeO.bind ?_ (fun _ => ?_))
      | exact ih0 _ _ _ _
      | exact ih1 _ _ _ _ _
      | exact LeO.none _
      | refine LeO.ite ?_ ?_
      | refine LeO.bind ?_ (fun _ => ?_)
set_option maxHeartbeats 8000000 in
set_option maxRecDepth 100000 in
theorem spec_Lift.calls (k : Nat) (a0 : Int) (a1 : Int) (r1 : Int) (r2 : Int) (w : World) (h : spec_Lift.f k a0 a1 = some (r1, r2)) :
    Calls Try.prog 19 #[.int .u64 a0, .int .u32 a1] w fun e w' => e = .returned (.tuple #[.int .u64 r1, .int .i64 r2]) ∧ Drawn0 w w' := by
  have H : (spec_Lift.l0 k a1 (wrap64 (a0 / 4294967296)) (wrap64 (Go.bits .and .u64 a0 4294967295)) (wrap64 ((wrap64 (a0 / 4294967296)) - 1))) = some (r1, r2) := h
  clear h
  have H' := Aside0.mk H
  clear H
  go_enter Try.func19, Try.ntmps19
  go_wp2
  go_loopg [8] k (fun kq v8 w' => ∃ (x8_1 : Int), v8 = .int .i64 x8_1 ∧ Aside0 (spec_Lift.l0 kq a1 (wrap64 (a0 / 4294967296)) (wrap64 (Go.bits .and .u64 a0 4294967295)) x8_1 = some (r1, r2)) ∧ Aside0 (kq ≤ k) ∧ Drawn0 w w')
  case atStart => exact ⟨(wrap64 ((wrap64 (a0 / 4294967296)) - 1)), (by first | rfl | (simp; done) | (simp [*]; done)), H', ⟨Nat.le_refl _⟩, by repeat (first | exact Drawn0.refl _ | apply Drawn0.step)⟩
  case round =>
    clear H'
    try clear c1
    try clear p2
    obtain ⟨x8_1, rfl, HA, HK1, ⟨m1, rfl⟩⟩ := hrel
    cases gk with
    | zero => exact absurd HA.out (by simp [spec_Lift.l0])
    | succ k1 =>
      have H := HA.out
      clear HA
      simp only [spec_Lift.l0] at H
      by_cases c3 : x8_1 ≤ (wrap64 ((wrap64 (a0 / 4294967296)) + 1))
      · rw [if_pos c3] at H
        have c3b0 : decide (x8_1 ≤ (wrap64 ((wrap64 (a0 / 4294967296)) + 1))) = true := decide_eq_true c3
        clear c3
        have HC4 := Aside0.mk H
        clear H
        go_upto_region 7 with (fail)
        go_cut [38] (fun v38 wc => ∃ (kq : Nat) (x38_3 : Bool), v38 = .bool x38_3 ∧ Aside0 (spec_Lift.j1 kq a1 (wrap64 (a0 / 4294967296)) (wrap64 (Go.bits .and .u64 a0 4294967295)) x8_1 x38_3 = some (r1, r2)) ∧ Aside0 (kq ≤ k1) ∧ Drawn0 w wc)
        case first =>
          have H := HC4.out
          clear HC4
          by_cases c5 : (wrap64 ((wrap64 ((wrap64 ((wrap64 (x8_1 - (wrap64 (a0 / 4294967296)))) * 4294967296)) + (wrap64 (a1)))) - (wrap64 (Go.bits .and .u64 a0 4294967295)))) < (-2147483648)
          · rw [if_pos c5] at H
            have c5b0 : decide ((wrap64 ((wrap64 ((wrap64 ((wrap64 (x8_1 - (wrap64 (a0 / 4294967296)))) * 4294967296)) + (wrap64 (a1)))) - (wrap64 (Go.bits .and .u64 a0 4294967295)))) < (-2147483648)) = true := decide_eq_true c5
            clear c5
            (first | rw [c5b0] | (simp only [i64_w, i32_w]; rw [c5b0]) | skip)
            have H' := Aside0.mk H
            clear H
            go_wp2
            go_meet
            case rel => exact ⟨_, (true), (by first | rfl | (simp; done) | (simp [*]; done)), H', ⟨by have := HK1.out; first | omega | exact Nat.le_refl _⟩, by repeat (first | exact Drawn0.refl _ | apply Drawn0.step)⟩
          · rw [if_neg c5] at H
            have c5b0 : decide ((wrap64 ((wrap64 ((wrap64 ((wrap64 (x8_1 - (wrap64 (a0 / 4294967296)))) * 4294967296)) + (wrap64 (a1)))) - (wrap64 (Go.bits .and .u64 a0 4294967295)))) < (-2147483648)) = false := decide_eq_false c5
            clear c5
            (first | rw [c5b0] | (simp only [i64_w, i32_w]; rw [c5b0]) | skip)
            have H' := Aside0.mk H
            clear H
            go_wp2
            go_meet
            case rel => exact ⟨_, (decide ((wrap64 ((wrap64 ((wrap64 ((wrap64 (x8_1 - (wrap64 (a0 / 4294967296)))) * 4294967296)) + (wrap64 (a1)))) - (wrap64 (Go.bits .and .u64 a0 4294967295)))) ≥ 2147483648)), (by first | rfl | (simp; done) | (simp [*]; done)), H', ⟨by have := HK1.out; first | omega | exact Nat.le_refl _⟩, by repeat (first | exact Drawn0.refl _ | apply Drawn0.step)⟩
        case rest =>
          clear HC4
          try clear c1
          try clear p2
          try clear c3
          try clear c3b0
          try clear c5
          try clear c5b0
          try clear p2
          obtain ⟨kq, x38_3, rfl, HA, HJ3, ⟨mc3, rfl⟩⟩ := hcut
          cases kq with
          | zero => exact absurd HA.out (by simp [spec_Lift.j1])
          | succ kj3 =>
            have H := HA.out
            clear HA
            simp only [spec_Lift.j1] at H
            by_cases c6 : x38_3 = true
            · subst c6
              have H1 : (spec_Lift.l0 kj3 a1 (wrap64 (a0 / 4294967296)) (wrap64 (Go.bits .and .u64 a0 4294967295)) (wrap64 (x8_1 + 1))) = some (r1, r2) := by rw [if_pos rfl] at H; exact H
              clear H
              have H := H1
              clear H1
              have H' := Aside0.mk H
              clear H
              go_wp2
              go_roundg kj3
              case measure => have := HK1.out; have := HJ3.out; omega
              case rel => exact ⟨(wrap64 (x8_1 + 1)), (by first | rfl | (simp; done) | (simp [*]; done)), H', ⟨by have := HK1.out; have := HJ3.out; omega⟩, by repeat (first | exact Drawn0.refl _ | apply Drawn0.step)⟩
            · replace c6 := Bool.eq_false_iff.mpr c6
              subst c6
              have H1 : (if x8_1 < 0 then (some (0, 4)) else (if x8_1 ≥ 4294967296 then (some (0, 4)) else (some (IntKind.u64.wrap ((IntKind.u64.wrap ((IntKind.u64.wrap (x8_1)) * 4294967296)) + (IntKind.u64.wrap (a1))), 0)))) = some (r1, r2) := by rw [if_neg (show ¬ (false = true) by decide)] at H; exact H
              clear H
              have H := H1
              clear H1
              by_cases c7 : x8_1 < 0
              · rw [if_pos c7] at H
                have c7b0 : decide (x8_1 < 0) = true := decide_eq_true c7
                clear c7
                simp only [Option.some.injEq, Prod.mk.injEq] at H
                obtain ⟨rfl, rfl⟩ := H
                go_wp2
                go_ret2
                exact ⟨by first | rfl | (simp; done) | (simp [*]; done), by repeat (first | exact Drawn0.refl _ | apply Drawn0.step)⟩
              · rw [if_neg c7] at H
                have c7b0 : decide (x8_1 < 0) = false := decide_eq_false c7
                clear c7
                by_cases c8 : x8_1 ≥ 4294967296
                · rw [if_pos c8] at H
                  have c8b0 : decide (4294967296 ≤ x8_1) = true := decide_eq_true c8
                  clear c8
                  simp only [Option.some.injEq, Prod.mk.injEq] at H
                  obtain ⟨rfl, rfl⟩ := H
                  go_wp2
                  go_ret2
                  exact ⟨by first | rfl | (simp; done) | (simp [*]; done), by repeat (first | exact Drawn0.refl _ | apply Drawn0.step)⟩
                · rw [if_neg c8] at H
                  have c8b0 : decide (4294967296 ≤ x8_1) = false := decide_eq_false c8
                  clear c8
                  simp only [Option.some.injEq, Prod.mk.injEq] at H
                  obtain ⟨rfl, rfl⟩ := H
                  go_wp2
                  go_ret2
                  exact ⟨by first | rfl | (simp; done) | (simp [*]; done), by repeat (first | exact Drawn0.refl _ | apply Drawn0.step)⟩
      · rw [if_neg c3] at H
        have c3b0 : decide (x8_1 ≤ (wrap64 ((wrap64 (a0 / 4294967296)) + 1))) = false := decide_eq_false c3
        clear c3
        simp only [Option.some.injEq, Prod.mk.injEq] at H
        obtain ⟨rfl, rfl⟩ := H
        go_wp2
        go_ret2
        exact ⟨by first | rfl | (simp; done) | (simp [*]; done), by repeat (first | exact Drawn0.refl _ | apply Drawn0.step)⟩

/-! ### impl_SerialDistance: function 16 -/
def impl_SerialDistance.f (a0 : Int) (a1 : Int) : Option (Int) := some (wrap64 (wrap32 ((a1 - a0) % 4294967296)))
set_option maxHeartbeats 8000000 in
set_option maxRecDepth 100000 in
theorem impl_SerialDistance.calls (a0 : Int) (a1 : Int) (r : Int) (w : World) (h : impl_SerialDistance.f a0 a1 = some r) :
    Calls Try.prog 16 #[.int .u32 a0, .int .u32 a1] w fun e w' => e = .returned (.int .i64 r) ∧ Drawn0 w w' := by
  have H : (some (wrap64 (wrap32 ((a1 - a0) % 4294967296)))) = some r := h
  clear h
  obtain rfl := Option.some.inj H
  go_enter Try.func16, Try.ntmps16
  go_wp2
  go_ret
  exact ⟨by first | rfl | (simp; done) | (simp [*]; done), by repeat (first | exact Drawn0.refl _ | apply Drawn0.step)⟩

/-! ### impl_Lift: function 20 -/
def impl_Lift.f (a0 : Int) (a1 : Int) : Option (Int × Int) := (impl_SerialDistance.f ((a0) % 4294967296) a1).bind fun t101 => (if t101 < 0 then (if a0 < (IntKind.u64.wrap (wrap64 (-t101))) then (some (0, 4)) else (if t101 > 0 then (if a0 > (IntKind.u64.wrap (18446744073709551615 - (IntKind.u64.wrap (t101)))) then (some (0, 4)) else (some (IntKind.u64.wrap (a0 + (IntKind.u64.wrap (t101))), 0))) else (some (IntKind.u64.wrap (a0 + (IntKind.u64.wrap (t101))), 0)))) else (if t101 > 0 then (if a0 > (IntKind.u64.wrap (18446744073709551615 - (IntKind.u64.wrap (t101)))) then (some (0, 4)) else (some (IntKind.u64.wrap (a0 + (IntKind.u64.wrap (t101))), 0))) else (some (IntKind.u64.wrap (a0 + (IntKind.u64.wrap (t101))), 0))))
set_option maxHeartbeats 8000000 in
set_option maxRecDepth 100000 in
theorem impl_Lift.calls (a0 : Int) (a1 : Int) (r1 : Int) (r2 : Int) (w : World) (h : impl_Lift.f a0 a1 = some (r1, r2)) :
    Calls Try.prog 20 #[.int .u64 a0, .int .u32 a1] w fun e w' => e = .returned (.tuple #[.int .u64 r1, .int .i64 r2]) ∧ Drawn0 w w' := by
  have H : ((impl_SerialDistance.f ((a0) % 4294967296) a1).bind fun t101 => (if t101 < 0 then (if a0 < (IntKind.u64.wrap (wrap64 (-t101))) then (some (0, 4)) else (if t101 > 0 then (if a0 > (IntKind.u64.wrap (18446744073709551615 - (IntKind.u64.wrap (t101)))) then (some (0, 4)) else (some (IntKind.u64.wrap (a0 + (IntKind.u64.wrap (t101))), 0))) else (some (IntKind.u64.wrap (a0 + (IntKind.u64.wrap (t101))), 0)))) else (if t101 > 0 then (if a0 > (IntKind.u64.wrap (18446744073709551615 - (IntKind.u64.wrap (t101)))) then (some (0, 4)) else (some (IntKind.u64.wrap (a0 + (IntKind.u64.wrap (t101))), 0))) else (some (IntKind.u64.wrap (a0 + (IntKind.u64.wrap (t101))), 0))))) = some (r1, r2) := h
  clear h
  replace H := Option.bind_eq_some_iff.mp H
  obtain ⟨t101, A30, H⟩ := H
  replace H : (if t101 < 0 then (if a0 < (IntKind.u64.wrap (wrap64 (-t101))) then (some (0, 4)) else (if t101 > 0 then (if a0 > (IntKind.u64.wrap (18446744073709551615 - (IntKind.u64.wrap (t101)))) then (some (0, 4)) else (some (IntKind.u64.wrap (a0 + (IntKind.u64.wrap (t101))), 0))) else (some (IntKind.u64.wrap (a0 + (IntKind.u64.wrap (t101))), 0)))) else (if t101 > 0 then (if a0 > (IntKind.u64.wrap (18446744073709551615 - (IntKind.u64.wrap (t101)))) then (some (0, 4)) else (some (IntKind.u64.wrap (a0 + (IntKind.u64.wrap (t101))), 0))) else (some (IntKind.u64.wrap (a0 + (IntKind.u64.wrap (t101))), 0)))) = some (r1, r2) := H
  have A3 := Aside0.mk A30
  clear A30
  by_cases c4 : t101 < 0
  · rw [if_pos c4] at H
    have c4b0 : decide (t101 < 0) = true := decide_eq_true c4
    clear c4
    by_cases c5 : a0 < (IntKind.u64.wrap (wrap64 (-t101)))
    · rw [if_pos c5] at H
      have c5b0 : decide (a0 < (IntKind.u64.wrap (wrap64 (-t101)))) = true := decide_eq_true c5
      clear c5
      simp only [Option.some.injEq, Prod.mk.injEq] at H
      obtain ⟨rfl, rfl⟩ := H
      go_enter Try.func20, Try.ntmps20
      go_wp2_with (first | ((with_reducible refine gate_callee (f := 16) rfl ?_); refine goesL_ (some 10) rfl rfl Try.func16 (by kernel_rfl) rfl #[.int .u32 ((a0) % 4294967296), .int .u32 a1] rfl (by (try simp only [List.map_toArray, List.map_cons, List.map_nil]); first | done | rfl | (simp only [List.length_drop, List.length_take]; rfl)) ?_; (with_reducible refine (impl_SerialDistance.calls ((a0) % 4294967296) a1 t101 _ A3.out).mono ?_); rintro e w' ⟨rfl, ⟨nd, rfl⟩⟩; refine ⟨_, rfl, ?_⟩))
      go_ret2
      exact ⟨by first | rfl | (simp; done) | (simp [*]; done), by repeat (first | exact Drawn0.refl _ | apply Drawn0.step)⟩
    · rw [if_neg c5] at H
      have c5b0 : decide (a0 < (IntKind.u64.wrap (wrap64 (-t101)))) = false := decide_eq_false c5
      clear c5
      by_cases c6 : t101 > 0
      · rw [if_pos c6] at H
        have c6b0 : decide (0 < t101) = true := decide_eq_true c6
        clear c6
        by_cases c7 : a0 > (IntKind.u64.wrap (18446744073709551615 - (IntKind.u64.wrap (t101))))
        · rw [if_pos c7] at H
          have c7b0 : decide ((IntKind.u64.wrap (18446744073709551615 - (IntKind.u64.wrap (t101)))) < a0) = true := decide_eq_true c7
          clear c7
          simp only [Option.some.injEq, Prod.mk.injEq] at H
          obtain ⟨rfl, rfl⟩ := H
          go_enter Try.func20, Try.ntmps20
          go_wp2_with (first | ((with_reducible refine gate_callee (f := 16) rfl ?_); refine goesL_ (some 10) rfl rfl Try.func16 (by kernel_rfl) rfl #[.int .u32 ((a0) % 4294967296), .int .u32 a1] rfl (by (try simp only [List.map_toArray, List.map_cons, List.map_nil]); first | done | rfl | (simp only [List.length_drop, List.length_take]; rfl)) ?_; (with_reducible refine (impl_SerialDistance.calls ((a0) % 4294967296) a1 t101 _ A3.out).mono ?_); rintro e w' ⟨rfl, ⟨nd, rfl⟩⟩; refine ⟨_, rfl, ?_⟩))
          go_ret2
          exact ⟨by first | rfl | (simp; done) | (simp [*]; done), by repeat (first | exact Drawn0.refl _ | apply Drawn0.step)⟩
        · rw [if_neg c7] at H
          have c7b0 : decide ((IntKind.u64.wrap (18446744073709551615 - (IntKind.u64.wrap (t101)))) < a0) = false := decide_eq_false c7
          clear c7
          simp only [Option.some.injEq, Prod.mk.injEq] at H
          obtain ⟨rfl, rfl⟩ := H
          go_enter Try.func20, Try.ntmps20
          go_wp2_with (first | ((with_reducible refine gate_callee (f := 16) rfl ?_); refine goesL_ (some 10) rfl rfl Try.func16 (by kernel_rfl) rfl #[.int .u32 ((a0) % 4294967296), .int .u32 a1] rfl (by (try simp only [List.map_toArray, List.map_cons, List.map_nil]); first | done | rfl | (simp only [List.length_drop, List.length_take]; rfl)) ?_; (with_reducible refine (impl_SerialDistance.calls ((a0) % 4294967296) a1 t101 _ A3.out).mono ?_); rintro e w' ⟨rfl, ⟨nd, rfl⟩⟩; refine ⟨_, rfl, ?_⟩))
          go_ret2
          exact ⟨by first | rfl | (simp; done) | (simp [*]; done), by repeat (first | exact Drawn0.refl _ | apply Drawn0.step)⟩
      · rw [if_neg c6] at H
        have c6b0 : decide (0 < t101) = false := decide_eq_false c6
        clear c6
        simp only [Option.some.injEq, Prod.mk.injEq] at H
        obtain ⟨rfl, rfl⟩ := H
        go_enter Try.func20, Try.ntmps20
        go_wp2_with (first | ((with_reducible refine gate_callee (f := 16) rfl ?_); refine goesL_ (some 10) rfl rfl Try.func16 (by kernel_rfl) rfl #[.int .u32 ((a0) % 4294967296), .int .u32 a1] rfl (by (try simp only [List.map_toArray, List.map_cons, List.map_nil]); first | done | rfl | (simp only [List.length_drop, List.length_take]; rfl)) ?_; (with_reducible refine (impl_SerialDistance.calls ((a0) % 4294967296) a1 t101 _ A3.out).mono ?_); rintro e w' ⟨rfl, ⟨nd, rfl⟩⟩; refine ⟨_, rfl, ?_⟩))
        go_ret2
        exact ⟨by first | rfl | (simp; done) | (simp [*]; done), by repeat (first | exact Drawn0.refl _ | apply Drawn0.step)⟩
  · rw [if_neg c4] at H
    have c4b0 : decide (t101 < 0) = false := decide_eq_false c4
    clear c4
    by_cases c8 : t101 > 0
    · rw [if_pos c8] at H
      have c8b0 : decide (0 < t101) = true := decide_eq_true c8
      clear c8
      by_cases c9 : a0 > (IntKind.u64.wrap (18446744073709551615 - (IntKind.u64.wrap (t101))))
      · rw [if_pos c9] at H
        have c9b0 : decide ((IntKind.u64.wrap (18446744073709551615 - (IntKind.u64.wrap (t101)))) < a0) = true := decide_eq_true c9
        clear c9
        simp only [Option.some.injEq, Prod.mk.injEq] at H
        obtain ⟨rfl, rfl⟩ := H
        go_enter Try.func20, Try.ntmps20
        go_wp2_with (first | ((with_reducible refine gate_callee (f := 16) rfl ?_); refine goesL_ (some 10) rfl rfl Try.func16 (by kernel_rfl) rfl #[.int .u32 ((a0) % 4294967296), .int .u32 a1] rfl (by (try simp only [List.map_toArray, List.map_cons, List.map_nil]); first | done | rfl | (simp only [List.length_drop, List.length_take]; rfl)) ?_; (with_reducible refine (impl_SerialDistance.calls ((a0) % 4294967296) a1 t101 _ A3.out).mono ?_); rintro e w' ⟨rfl, ⟨nd, rfl⟩⟩; refine ⟨_, rfl, ?_⟩))
        go_ret2
        exact ⟨by first | rfl | (simp; done) | (simp [*]; done), by repeat (first | exact Drawn0.refl _ | apply Drawn0.step)⟩
      · rw [if_neg c9] at H
        have c9b0 : decide ((IntKind.u64.wrap (18446744073709551615 - (IntKind.u64.wrap (t101)))) < a0) = false := decide_eq_false c9
        clear c9
        simp only [Option.some.injEq, Prod.mk.injEq] at H
        obtain ⟨rfl, rfl⟩ := H
        go_enter Try.func20, Try.ntmps20
        go_wp2_with (first | ((with_reducible refine gate_callee (f := 16) rfl ?_); refine goesL_ (some 10) rfl rfl Try.func16 (by kernel_rfl) rfl #[.int .u32 ((a0) % 4294967296), .int .u32 a1] rfl (by (try simp only [List.map_toArray, List.map_cons, List.map_nil]); first | done | rfl | (simp only [List.length_drop, List.length_take]; rfl)) ?_; (with_reducible refine (impl_SerialDistance.calls ((a0) % 4294967296) a1 t101 _ A3.out).mono ?_); rintro e w' ⟨rfl, ⟨nd, rfl⟩⟩; refine ⟨_, rfl, ?_⟩))
        go_ret2
        exact ⟨by first | rfl | (simp; done) | (simp [*]; done), by repeat (first | exact Drawn0.refl _ | apply Drawn0.step)⟩
    · rw [if_neg c8] at H
      have c8b0 : decide (0 < t101) = false := decide_eq_false c8
      clear c8
      simp only [Option.some.injEq, Prod.mk.injEq] at H
      obtain ⟨rfl, rfl⟩ := H
      go_enter Try.func20, Try.ntmps20
      go_wp2_with (first | ((with_reducible refine gate_callee (f := 16) rfl ?_); refine goesL_ (some 10) rfl rfl Try.func16 (by kernel_rfl) rfl #[.int .u32 ((a0) % 4294967296), .int .u32 a1] rfl (by (try simp only [List.map_toArray, List.map_cons, List.map_nil]); first | done | rfl | (simp only [List.length_drop, List.length_take]; rfl)) ?_; (with_reducible refine (impl_SerialDistance.calls ((a0) % 4294967296) a1 t101 _ A3.out).mono ?_); rintro e w' ⟨rfl, ⟨nd, rfl⟩⟩; refine ⟨_, rfl, ?_⟩))
      go_ret2
      exact ⟨by first | rfl | (simp; done) | (simp [*]; done), by repeat (first | exact Drawn0.refl _ | apply Drawn0.step)⟩

/-! ### laws_FnExactLift: function 6 -/
def laws_FnExactLift.f (k : Nat) (a0 : Int) (a1 : Int) : Option (Bool) := (spec_Lift.f k a0 a1).bind fun bt102 => ((impl_Lift.f a0 a1).bind fun bt104 => (if bt104.1 = bt102.1 then (if bt104.2 = bt102.2 then (some true) else (some false)) else (some false)))
theorem laws_FnExactLift.mono : ∀ a0 a1 k, LeO (laws_FnExactLift.f k a0 a1) (laws_FnExactLift.f (k + 1) a0 a1) := by
  intro a0 a1 k
  unfold laws_FnExactLift.f
  repeat' first
      | (with_reducible exact spec_Lift.mono _ _ _)
      | (with_reducible exact LeO.refl _)
      | (with_reducible exact LeO.none _)
      | (with_reducible refine LeO.ite ?_ ?_)
      | (with_reducible refine LeO.bind ?_ (fun _ => ?_))
      | exact spec_Lift.mono _ _ _
      | exact LeO.none _
      | refine LeO.ite ?_ ?_
      | refine LeO.bind ?_ (fun _ => ?_)
set_option maxHeartbeats 8000000 in
set_option maxRecDepth 100000 in
theorem laws_FnExactLift.calls (k : Nat) (a0 : Int) (a1 : Int) (r : Bool) (w : World) (h : laws_FnExactLift.f k a0 a1 = some r) :
    Calls Try.prog 6 #[.int .u64 a0, .int .u32 a1] w fun e w' => e = .returned (.bool r) ∧ Drawn0 w w' := by
  have H : ((spec_Lift.f k a0 a1).bind fun bt102 => ((impl_Lift.f a0 a1).bind fun bt104 => (if bt104.1 = bt102.1 then (if bt104.2 = bt102.2 then (some true) else (some false)) else (some false)))) = some r := h
  clear h
  replace H := Option.bind_eq_some_iff.mp H
  obtain ⟨⟨t102, t103⟩, A30, H⟩ := H
  replace H : ((impl_Lift.f a0 a1).bind fun bt104 => (if bt104.1 = t102 then (if bt104.2 = t103 then (some true) else (some false)) else (some false))) = some r := H
  have A3 := Aside0.mk A30
  clear A30
  replace H := Option.bind_eq_some_iff.mp H
  obtain ⟨⟨t104, t105⟩, A40, H⟩ := H
  replace H : (if t104 = t102 then (if t105 = t103 then (some true) else (some false)) else (some false)) = some r := H
  have A4 := Aside0.mk A40
  clear A40
  by_cases c5 : t104 = t102
  · rw [if_pos c5] at H
    have c5b0 : (t104 == t102) = true := beq_iff_eq.mpr c5
    have c5b1 : (t104 != t102) = false := bne_eq_false_iff_eq.mpr c5
    clear c5
    by_cases c6 : t105 = t103
    · rw [if_pos c6] at H
      have c6b0 : (t105 == t103) = true := beq_iff_eq.mpr c6
      have c6b1 : (t105 != t103) = false := bne_eq_false_iff_eq.mpr c6
      clear c6
      obtain rfl := Option.some.inj H
      go_enter Try.func6, Try.ntmps6
      go_wp2_with (first | ((with_reducible refine gate_callee (f := 19) rfl ?_); refine goesL_ (some 12) rfl rfl Try.func19 (by kernel_rfl) rfl #[.int .u64 a0, .int .u32 a1] rfl (by (try simp only [List.map_toArray, List.map_cons, List.map_nil]); first | done | rfl | (simp only [List.length_drop, List.length_take]; rfl)) ?_; (with_reducible refine (spec_Lift.calls k a0 a1 t102 t103 _ A3.out).mono ?_); rintro e w' ⟨rfl, ⟨nd, rfl⟩⟩; refine ⟨_, rfl, ?_⟩) | ((with_reducible refine gate_callee (f := 20) rfl ?_); refine goesL_ (some 18) rfl rfl Try.func20 (by kernel_rfl) rfl #[.int .u64 a0, .int .u32 a1] rfl (by (try simp only [List.map_toArray, List.map_cons, List.map_nil]); first | done | rfl | (simp only [List.length_drop, List.length_take]; rfl)) ?_; (with_reducible refine (impl_Lift.calls a0 a1 t104 t105 _ A4.out).mono ?_); rintro e w' ⟨rfl, ⟨nd, rfl⟩⟩; refine ⟨_, rfl, ?_⟩))
      go_ret
      exact ⟨by first | rfl | (simp; done) | (simp [*]; done), by repeat (first | exact Drawn0.refl _ | apply Drawn0.step)⟩
    · rw [if_neg c6] at H
      have c6b0 : (t105 == t103) = false := beq_eq_false_iff_ne.mpr c6
      have c6b1 : (t105 != t103) = true := bne_iff_ne.mpr c6
      obtain rfl := Option.some.inj H
      go_enter Try.func6, Try.ntmps6
      go_wp2_with (first | ((with_reducible refine gate_callee (f := 19) rfl ?_); refine goesL_ (some 12) rfl rfl Try.func19 (by kernel_rfl) rfl #[.int .u64 a0, .int .u32 a1] rfl (by (try simp only [List.map_toArray, List.map_cons, List.map_nil]); first | done | rfl | (simp only [List.length_drop, List.length_take]; rfl)) ?_; (with_reducible refine (spec_Lift.calls k a0 a1 t102 t103 _ A3.out).mono ?_); rintro e w' ⟨rfl, ⟨nd, rfl⟩⟩; refine ⟨_, rfl, ?_⟩) | ((with_reducible refine gate_callee (f := 20) rfl ?_); refine goesL_ (some 18) rfl rfl Try.func20 (by kernel_rfl) rfl #[.int .u64 a0, .int .u32 a1] rfl (by (try simp only [List.map_toArray, List.map_cons, List.map_nil]); first | done | rfl | (simp only [List.length_drop, List.length_take]; rfl)) ?_; (with_reducible refine (impl_Lift.calls a0 a1 t104 t105 _ A4.out).mono ?_); rintro e w' ⟨rfl, ⟨nd, rfl⟩⟩; refine ⟨_, rfl, ?_⟩))
      go_ret
      exact ⟨by first | rfl | (simp; done) | (simp [*]; done), by repeat (first | exact Drawn0.refl _ | apply Drawn0.step)⟩
  · rw [if_neg c5] at H
    have c5b0 : (t104 == t102) = false := beq_eq_false_iff_ne.mpr c5
    have c5b1 : (t104 != t102) = true := bne_iff_ne.mpr c5
    obtain rfl := Option.some.inj H
    go_enter Try.func6, Try.ntmps6
    go_wp2_with (first | ((with_reducible refine gate_callee (f := 19) rfl ?_); refine goesL_ (some 12) rfl rfl Try.func19 (by kernel_rfl) rfl #[.int .u64 a0, .int .u32 a1] rfl (by (try simp only [List.map_toArray, List.map_cons, List.map_nil]); first | done | rfl | (simp only [List.length_drop, List.length_take]; rfl)) ?_; (with_reducible refine (spec_Lift.calls k a0 a1 t102 t103 _ A3.out).mono ?_); rintro e w' ⟨rfl, ⟨nd, rfl⟩⟩; refine ⟨_, rfl, ?_⟩) | ((with_reducible refine gate_callee (f := 20) rfl ?_); refine goesL_ (some 18) rfl rfl Try.func20 (by kernel_rfl) rfl #[.int .u64 a0, .int .u32 a1] rfl (by (try simp only [List.map_toArray, List.map_cons, List.map_nil]); first | done | rfl | (simp only [List.length_drop, List.length_take]; rfl)) ?_; (with_reducible refine (impl_Lift.calls a0 a1 t104 t105 _ A4.out).mono ?_); rintro e w' ⟨rfl, ⟨nd, rfl⟩⟩; refine ⟨_, rfl, ?_⟩))
    go_ret
    exact ⟨by first | rfl | (simp; done) | (simp [*]; done), by repeat (first | exact Drawn0.refl _ | apply Drawn0.step)⟩

/-- THE ONE PURE STATEMENT of laws_FnExactLift: yours. -/
def laws_FnExactLift.Pure : Prop := ∀ (a0 : Int) (a1 : Int), (Lit.int .u64 a0).wf = true → (Lit.int .u32 a1).wf = true → ∃ k, laws_FnExactLift.f k a0 a1 = some true
theorem laws_FnExactLift.walk (P : laws_FnExactLift.Pure) (a0 : Int) (a1 : Int) (w : World) (w0 : (Lit.int .u64 a0).wf = true) (w1 : (Lit.int .u32 a1).wf = true) :
    Calls Try.prog 6 #[.int .u64 a0, .int .u32 a1] w fun e w' => e = .returned (.bool true) ∧ Below w.heap.size w w' := by
  obtain ⟨k, h⟩ := P a0 a1 w0 w1
  refine (laws_FnExactLift.calls k a0 a1 true w h).mono ?_
  rintro e w' ⟨rfl, hd⟩
  exact ⟨rfl, hd.below⟩

end Go.Proofs.Ytjkbpcbnfkangaa.PFnExactLift
