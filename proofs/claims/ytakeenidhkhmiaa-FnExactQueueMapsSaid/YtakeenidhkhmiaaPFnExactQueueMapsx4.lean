-- by a program of this session (wip/pr)
import Derived.Test.YtakeenidhkhmiaaPFnExactQueueMapsx0
import Derived.Test.YtakeenidhkhmiaaPFnExactQueueMapsx3
namespace Go.Proofs.Ytakeenidhkhmiaa.PFnExactQueueMaps
open Go.RowKit Go.Proofs.YtakeenidhkhmiaaW.PrintWords Go.Proofs.YtakeenidhkhmiaaW.PrintLast Go.Proofs.YtakeenidhkhmiaaW.PrintMore
attribute [local go_sem] max2_int min2_int max_two min_two max_three min_three max_four min_four   -- for this text's walks alone
set_option linter.unusedVariables false
set_option linter.unusedSimpArgs false

/-! ### spec_l6Bit: function 77 -/
def spec_l6Bit.l0 : Nat → Int → Int → Int → Option (Bool)
  | 0, _, _, _ => none
  | k + 1, x0, x1, x5 => if x5 < x1 then (spec_l6Bit.l0 k (wrap64 (Int.tdiv x0 2)) x1 (wrap64 (x5 + 1))) else (some ((Int.tmod x0 2) == 1))
def spec_l6Bit.f (k : Nat) (a0 : Int) (a1 : Int) : Option (Bool) := spec_l6Bit.l0 k a0 a1 0
theorem spec_l6Bit.mono_l : ∀ k, (∀ y0 y1 y2, LeO (spec_l6Bit.l0 k y0 y1 y2) (spec_l6Bit.l0 (k + 1) y0 y1 y2))
  | 0 => fun _ _ _ r h => by simp [spec_l6Bit.l0] at h
  | k + 1 => by
    have ih0 := spec_l6Bit.mono_l k
    · intro y0 y1 y2
      unfold spec_l6Bit.l0
      repeat' first
      | (with_reducible exact ih0 _ _ _)
      | (with_reducible exact LeO.refl _)
      | (with_reducible exact LeO.none _)
      | (with_reducible refine LeO.ite ?_ ?_)
      | (with_reducible refine LeO.bind ?_ (fun _ => ?_))
      | exact ih0 _ _ _
      | exact LeO.none _
      | refine LeO.ite ?_ ?_
      | refine LeO.bind ?_ (fun _ => ?_)
theorem spec_l6Bit.mono : ∀ a0 a1 k, LeO (spec_l6Bit.f k a0 a1) (spec_l6Bit.f (k + 1) a0 a1) := by
  intro a0 a1 k
  have ih0 := spec_l6Bit.mono_l k
  unfold spec_l6Bit.f
  repeat' first
      | (with_reducible exact ih0 _ _ _)
      | (with_reducible exact LeO.refl _)
      | (with_reducible exact LeO.none _)
      | (with_reducible refine LeO.ite ?_ ?_)
      | (with_reducible refine LeO.bind ?_ (fun _ => ?_))
      | exact ih0 _ _ _
      | exact LeO.none _
      | refine LeO.ite ?_ ?_
      | refine LeO.bind ?_ (fun _ => ?_)
set_option maxHeartbeats 8000000 in
set_option maxRecDepth 100000 in
theorem spec_l6Bit.calls (k : Nat) (a0 : Int) (a1 : Int) (r : Bool) (w : World) (h : spec_l6Bit.f k a0 a1 = some r) :
    Calls Try.prog 77 #[.int .i64 a0, .int .i64 a1] w fun e w' => e = .returned (.bool r) ∧ Drawn0 w w' := by
  have H : (spec_l6Bit.l0 k a0 a1 0) = some r := h
  clear h
  have H' := Aside0.mk H
  clear H
  go_enter Try.func77, Try.ntmps77
  go_wp2
  go_loopg [0, 5] k (fun kq v0 v5 w' => ∃ (x0_1 : Int) (x5_1 : Int), v0 = .int .i64 x0_1 ∧ v5 = .int .i64 x5_1 ∧ Aside0 (spec_l6Bit.l0 kq x0_1 a1 x5_1 = some r) ∧ Aside0 (kq ≤ k) ∧ Drawn0 w w')
  case atStart => exact ⟨(a0), (0), (by first | rfl | (simp; done) | (simp [*]; done)), (by first | rfl | (simp; done) | (simp [*]; done)), H', ⟨Nat.le_refl _⟩, by repeat (first | exact Drawn0.refl _ | apply Drawn0.step)⟩
  case round =>
    clear H'
    try clear p2
    obtain ⟨x0_1, x5_1, rfl, rfl, HA, HK1, ⟨m1, rfl⟩⟩ := hrel
    cases gk with
    | zero => exact absurd HA.out (by simp [spec_l6Bit.l0])
    | succ k1 =>
      have H := HA.out
      clear HA
      simp only [spec_l6Bit.l0] at H
      by_cases c3 : x5_1 < a1
      · rw [if_pos c3] at H
        have c3b0 : decide (x5_1 < a1) = true := decide_eq_true c3
        clear c3
        have H' := Aside0.mk H
        clear H
        go_wp2
        go_roundg k1
        case measure => have := HK1.out; omega
        case rel => exact ⟨(wrap64 (Int.tdiv x0_1 2)), (wrap64 (x5_1 + 1)), (by first | rfl | (simp; done) | (simp [*]; done)), (by first | rfl | (simp; done) | (simp [*]; done)), H', ⟨by have := HK1.out; omega⟩, by repeat (first | exact Drawn0.refl _ | apply Drawn0.step)⟩
      · rw [if_neg c3] at H
        have c3b0 : decide (x5_1 < a1) = false := decide_eq_false c3
        clear c3
        obtain rfl := Option.some.inj H
        go_wp2
        go_ret
        exact ⟨by first | rfl | (simp; done) | (simp [*]; done), by repeat (first | exact Drawn0.refl _ | apply Drawn0.step)⟩

/-! ### spec_QueueMaps: function 34 -/
mutual
def spec_QueueMaps.j0 : Nat → List (S84) → Int → Bool → Option ((List (S84)) × Int)
  | 0, _, _, _ => none
  | k + 1, x0, x1, x19 => if x19 = true then (some (([] : List (S84)), 4)) else (spec_QueueMaps.l0 k x0 x1 (([] : List (S84))) 0)
def spec_QueueMaps.l0 : Nat → List (S84) → Int → List (S84) → Int → Option ((List (S84)) × Int)
  | 0, _, _, _, _ => none
  | k + 1, x0, x1, x6, x7 => if x7 < (x0.length : Int) then (if 0 ≤ x7 then (spec_QueueMaps.l1 k x0 x1 x6 x7 false 0 ((rd_T84 x0 x7).f0) ((rd_T84 x0 x7).f1) ((rd_T84 x0 x7).f2) ((rd_T84 x0 x7).f3) ((rd_T84 x0 x7).f4)) else (none)) else (some (x6, 0))
def spec_QueueMaps.l1 : Nat → List (S84) → Int → List (S84) → Int → Bool → Int → Int → Int → Int → Int → Int → Option ((List (S84)) × Int)
  | 0, _, _, _, _, _, _, _, _, _, _, _ => none
  | k + 1, x0, x1, x6, x7, x9, x10, x149000, x149001, x149002, x149003, x149004 => if x10 < 8 then ((spec_l6Bit.f k x149003 x10).bind fun t155 => (if t155 = true then ((spec_l6Bit.f k x1 x10).bind fun t156 => (if t156 = true then (spec_QueueMaps.l1 k x0 x1 x6 x7 true (wrap64 (x10 + 1)) x149000 x149001 x149002 x149003 x149004) else (spec_QueueMaps.l1 k x0 x1 x6 x7 x9 (wrap64 (x10 + 1)) x149000 x149001 x149002 x149003 x149004))) else (spec_QueueMaps.l1 k x0 x1 x6 x7 x9 (wrap64 (x10 + 1)) x149000 x149001 x149002 x149003 x149004))) else (if x9 = true then (if x6.length < 3518437208883 then (spec_QueueMaps.l0 k x0 x1 (x6 ++ [(⟨x149000, x149001, x149002, x149003, x149004⟩ : S84)]) (wrap64 (x7 + 1))) else (none)) else (if x6.length < 3518437208883 then (spec_QueueMaps.l0 k x0 x1 (x6 ++ [(⟨x149000, x149001, x149002, x149003, 1⟩ : S84)]) (wrap64 (x7 + 1))) else (none)))
end
def spec_QueueMaps.f (k : Nat) (l0 : List (S84)) (a1 : Int) : Option ((List (S84)) × Int) := (spec_l6MapsOK.f k l0).bind fun t143 => (if t143 = true then (if a1 < 0 then (spec_QueueMaps.j0 k l0 a1 true) else (spec_QueueMaps.j0 k l0 a1 (decide (a1 > 255)))) else (some (([] : List (S84)), 1)))
theorem spec_QueueMaps.mono_l : ∀ k, (∀ y0 y1 y2, LeO (spec_QueueMaps.j0 k y0 y1 y2) (spec_QueueMaps.j0 (k + 1) y0 y1 y2)) ∧ (∀ y0 y1 y2 y3, LeO (spec_QueueMaps.l0 k y0 y1 y2 y3) (spec_QueueMaps.l0 (k + 1) y0 y1 y2 y3)) ∧ (∀ y0 y1 y2 y3 y4 y5 y6 y7 y8 y9 y10, LeO (spec_QueueMaps.l1 k y0 y1 y2 y3 y4 y5 y6 y7 y8 y9 y10) (spec_QueueMaps.l1 (k + 1) y0 y1 y2 y3 y4 y5 y6 y7 y8 y9 y10))
  | 0 => ⟨fun _ _ _ r h => by simp [spec_QueueMaps.j0] at h, fun _ _ _ _ r h => by simp [spec_QueueMaps.l0] at h, fun _ _ _ _ _ _ _ _ _ _ _ r h => by simp [spec_QueueMaps.l1] at h⟩
  | k + 1 => by
    obtain ⟨ih0, ih1, ih2⟩ := spec_QueueMaps.mono_l k
    refine ⟨?_, ?_, ?_⟩
    · intro y0 y1 y2
      unfold spec_QueueMaps.j0
      repeat' first
      | (with_reducible exact ih0 _ _ _)
      | (with_reducible exact ih1 _ _ _ _)
      | (with_reducible exact ih2 _ _ _ _ _ _ _ _ _ _ _)
      | (with_reducible exact spec_l6Bit.mono _ _ _)
      | (with_reducible exact spec_l6MapsOK.mono _ _)
      | (with_reducible exact LeO.refl _)
      | (with_reducible exact LeO.none _)
      | (with_reducible refine LeO.ite ?_ ?_)
      | (with_reducible refine LeO.bind ?_ (fun _ => ?_))
      | exact ih0 _ _ _
      | exact ih1 _ _ _ _
      | exact ih2 _ _ _ _ _ _ _ _ _ _ _
      | exact spec_l6Bit.mono _ _ _
      | exact spec_l6MapsOK.mono _ _
      | exact LeO.none _
      | refine LeO.ite ?_ ?_
      | refine LeO.bind ?_ (fun _ => ?_)
    · intro y0 y1 y2 y3
      unfold spec_QueueMaps.l0
      repeat' first
      | (with_reducible exact ih0 _ _ _)
      | (with_reducible exact ih1 _ _ _ _)
      | (with_reducible exact ih2 _ _ _ _ _ _ _ _ _ _ _)
      | (with_reducible exact spec_l6Bit.mono _ _ _)
      | (with_reducible exact spec_l6MapsOK.mono _ _)
      | (with_reducible exact LeO.refl _)
      | (with_reducible exact LeO.none _)
      | (with_reducible refine LeO.ite ?_ ?_)
      | (with_reducible refine LeO.bind ?_ (fun _ => ?_))
      | exact ih0 _ _ _
      | exact ih1 _ _ _ _
      | exact ih2 _ _ _ _ _ _ _ _ _ _ _
      | exact spec_l6Bit.mono _ _ _
      | exact spec_l6MapsOK.mono _ _
      | exact LeO.none _
      | refine LeO.ite ?_ ?_
      | refine LeO.bind ?_ (fun _ => ?_)
    · intro y0 y1 y2 y3 y4 y5 y6 y7 y8 y9 y10
      unfold spec_QueueMaps.l1
      repeat' first
      | (with_reducible exact ih0 _ _ _)
      | (with_reducible exact ih1 _ _ _ _)
      | (with_reducible exact ih2 _ _ _ _ _ _ _ _ _ _ _)
      | (with_reducible exact spec_l6Bit.mono _ _ _)
      | (with_reducible exact spec_l6MapsOK.mono _ _)
      | (with_reducible exact LeO.refl _)
      | (with_reducible exact LeO.none _)
      | (with_reducible refine LeO.ite ?_ ?_)
      | (with_reducible refine LeO.bind ?_ (fun _ => ?_))
      | exact ih0 _ _ _
      | exact ih1 _ _ _ _
      | exact ih2 _ _ _ _ _ _ _ _ _ _ _
      | exact spec_l6Bit.mono _ _ _
      | exact spec_l6MapsOK.mono _ _
      | exact LeO.none _
      | refine LeO.ite ?_ ?_
      | refine LeO.bind ?_ (fun _ => ?_)
theorem spec_QueueMaps.mono : ∀ a0 a1 k, LeO (spec_QueueMaps.f k a0 a1) (spec_QueueMaps.f (k + 1) a0 a1) := by
  intro a0 a1 k
  obtain ⟨ih0, ih1, ih2⟩ := spec_QueueMaps.mono_l k
  unfold spec_QueueMaps.f
  repeat' first
      | (with_reducible exact ih0 _ _ _)
      | (with_reducible exact ih1 _ _ _ _)
      | (with_reducible exact ih2 _ _ _ _ _ _ _ _ _ _ _)
      | (with_reducible exact spec_l6Bit.mono _ _ _)
      | (with_reducible exact spec_l6MapsOK.mono _ _)
      | (with_reducible exact LeO.refl _)
      | (with_reducible exact LeO.none _)
      | (with_reducible refine LeO.ite ?_ ?_)
      | (with_reducible refine LeO.bind ?_ (fun _ => ?_))
      | exact ih0 _ _ _
      | exact ih1 _ _ _ _
      | exact ih2 _ _ _ _ _ _ _ _ _ _ _
      | exact spec_l6Bit.mono _ _ _
      | exact spec_l6MapsOK.mono _ _
      | exact LeO.none _
      | refine LeO.ite ?_ ?_
      | refine LeO.bind ?_ (fun _ => ?_)
set_option maxHeartbeats 8000000 in
set_option maxRecDepth 100000 in
theorem spec_QueueMaps.calls (k : Nat) (A0 : Option Addr) (c0 : Nat) (l0 : List (S84)) (a1 : Int) (r1 : List (S84)) (r2 : Int) (w : World) (hr0 : Kd.C k84 w A0 l0.length l0) (hc0 : l0.length ≤ c0) (h : spec_QueueMaps.f k l0 a1 = some (r1, r2)) :
    Calls Try.prog 34 #[.slice A0 l0.length c0, .int .i64 a1] w fun e w' => ∃ v0_ : Value, e = .returned (.tuple #[v0_, .int .i64 r2]) ∧ Kd.R k84 84 w' w.heap.size (fun _ => True) v0_ r1 ∧ Below w.heap.size w w' := by
  have hu84 := Try.underlying84
  have HR0 := Aside0.mk hr0
  have HC0 := Aside0.mk hc0
  clear hr0 hc0
  have HB := Aside0.mk (Below.refl w.heap.size w)
  have H : ((spec_l6MapsOK.f k l0).bind fun t143 => (if t143 = true then (if a1 < 0 then (spec_QueueMaps.j0 k l0 a1 true) else (spec_QueueMaps.j0 k l0 a1 (decide (a1 > 255)))) else (some (([] : List (S84)), 1)))) = some (r1, r2) := h
  clear h
  replace H := Option.bind_eq_some_iff.mp H
  obtain ⟨t143, A30, H⟩ := H
  replace H : (if t143 = true then (if a1 < 0 then (spec_QueueMaps.j0 k l0 a1 true) else (spec_QueueMaps.j0 k l0 a1 (decide (a1 > 255)))) else (some (([] : List (S84)), 1))) = some (r1, r2) := H
  have A3 := Aside0.mk A30
  clear A30
  by_cases c4 : t143 = true
  · subst c4
    have H1 : (if a1 < 0 then (spec_QueueMaps.j0 k l0 a1 true) else (spec_QueueMaps.j0 k l0 a1 (decide (a1 > 255)))) = some (r1, r2) := by rw [if_pos rfl] at H; exact H
    clear H
    have H := H1
    clear H1
    have HC5 := Aside0.mk H
    clear H
    go_enter Try.func34, Try.ntmps34
    go_upto_region 3 with (first | ((with_reducible refine gate_callee (f := 72) rfl ?_); refine goesL_ (some 12) rfl rfl Try.func72 (by kernel_rfl) rfl #[.slice A0 l0.length c0] rfl (by (try simp only [List.map_toArray, List.map_cons, List.map_nil]); first | done | rfl | (simp only [List.length_drop, List.length_take]; rfl)) ?_; (with_reducible refine (spec_l6MapsOK.calls k _ _ l0 true _ ?side1 ?side2 A3.out).mono ?_); (case side1 => repeat (first | exact HR0.out | (with_reducible refine Kd.C_alloc ?_ _) | (with_reducible refine Kd.C_drewN ?_ _) | (with_reducible refine Kd.C_drew ?_))); (case side2 => exact HC0.out); rintro e w6 ⟨rfl, hb⟩; refine ⟨_, rfl, ?_⟩; have n0_ := Aside0.mk (below_step (by repeat (first | (with_reducible first | exact HB.out | apply below_alloc | apply pw_below_drewN | apply below_drew1) | exact HB.out)) hb); clear HB; have HB := n0_; clear n0_; (try clear hb); (try clear hb2); (try clear hk); (try clear hi)))
    (try simp only [Act.put, List.setIfInBounds_toArray, List.set_cons_zero, List.set_cons_succ])
    go_cut [19] (fun v19 wc => ∃ (kq : Nat) (x19_4 : Bool), v19 = .bool x19_4 ∧ Aside0 (spec_QueueMaps.j0 kq l0 a1 x19_4 = some (r1, r2)) ∧ Aside0 (kq ≤ k) ∧ Aside0 (Below w.heap.size w wc))
    case first =>
      have H := HC5.out
      clear HC5
      by_cases c7 : a1 < 0
      · rw [if_pos c7] at H
        have c7b0 : decide (a1 < 0) = true := decide_eq_true c7
        clear c7
        (first | rw [c7b0] | (simp only [i64_w, i32_w]; rw [c7b0]) | skip)
        have H' := Aside0.mk H
        clear H
        go_wp2
        go_meet
        case rel => exact ⟨_, (true), (by first | rfl | (simp; done) | (simp [*]; done)), H', ⟨by first | omega | exact Nat.le_refl _⟩, ⟨by repeat (first | (with_reducible first | exact HB.out | apply below_alloc | apply pw_below_drewN | apply below_drew1) | exact HB.out)⟩⟩
      · rw [if_neg c7] at H
        have c7b0 : decide (a1 < 0) = false := decide_eq_false c7
        clear c7
        (first | rw [c7b0] | (simp only [i64_w, i32_w]; rw [c7b0]) | skip)
        have H' := Aside0.mk H
        clear H
        go_wp2
        go_meet
        case rel => exact ⟨_, (decide (a1 > 255)), (by first | rfl | (simp; done) | (simp [*]; done)), H', ⟨by first | omega | exact Nat.le_refl _⟩, ⟨by repeat (first | (with_reducible first | exact HB.out | apply below_alloc | apply pw_below_drewN | apply below_drew1) | exact HB.out)⟩⟩
    case rest =>
      clear HC5
      try clear p2
      try clear c3
      try clear c4
      try clear c7
      try clear c7b0
      obtain ⟨kq, x19_4, rfl, HA, HJ4, HB⟩ := hcut
      cases kq with
      | zero => exact absurd HA.out (by simp [spec_QueueMaps.j0])
      | succ kj4 =>
        have H := HA.out
        clear HA
        simp only [spec_QueueMaps.j0] at H
        by_cases c8 : x19_4 = true
        · subst c8
          have H1 : (some (([] : List (S84)), 4)) = some (r1, r2) := by rw [if_pos rfl] at H; exact H
          clear H
          have H := H1
          clear H1
          simp only [Option.some.injEq, Prod.mk.injEq] at H
          obtain ⟨rfl, rfl⟩ := H
          go_wp2
          go_ret2
          exact ⟨_, by first | rfl | (simp [errW_none, errW_some] <;> rfl) | (simp [*, errW_none, errW_some] <;> rfl), by first | exact Kd.R_nil _ _ _ _ _ | exact Kd.N_nil _ _ _ _ _ | exact Kd.V_nil _ _ _ _ _ | exact Kd.Q_nil _ _ _ _ _ | exact Kd.S_nil _ _ _ _ _, by repeat (first | (with_reducible first | exact HB.out | apply below_alloc | apply pw_below_drewN | apply below_drew1) | exact HB.out)⟩
        · replace c8 := Bool.eq_false_iff.mpr c8
          subst c8
          have H1 : (spec_QueueMaps.l0 kj4 l0 a1 (([] : List (S84))) 0) = some (r1, r2) := by rw [if_neg (show ¬ (false = true) by decide)] at H; exact H
          clear H
          have H := H1
          clear H1
          obtain ⟨y144, hy144⟩ : ∃ y_ : List (S84), y_ = (([] : List (S84))) := ⟨_, rfl⟩
          replace H : (spec_QueueMaps.l0 kj4 l0 a1 y144 0) = some (r1, r2) := by first | (rw [hy144]; with_reducible exact H) | (have H2_ := (Option.bind_some _ _).symm.trans H; rw [hy144]; with_reducible exact H2_) | (have H2_ := (Option.bind_some _ _).symm.trans H; with_reducible exact H2_) | with_reducible exact H | (rw [hy144]; exact H) | exact H
          have Ny144 := Aside0.mk hy144
          clear hy144
          have H' := Aside0.mk H
          clear H
          go_wp2_with (first | ((with_reducible refine gate_dst (N := 20) rfl ?_); refine Kd.R_lit k84 _ 84 ?hg (N := 20) ?hd (xs := ([] : List (S84))) (inner := []) (ok := fun _ => True) (okp := fun _ => True) ?hr ?hp (fun _ hk => hk) trivial (Below.refl _ _) (Nat.le_refl _) (by simp) ?_; (case hd => rfl); (case hg => rfl); (case hr => first | (go_simp; done) | (go_simp; rfl)); (case hp => exact (Reps.none _ _)); intro v145 w9 ho10 hb hg_ hnew_; clear hg_ hnew_; (first | rw [← Ny144.out] at ho10 | (simp only [Int.reduceToNat] at ho10; rw [← Ny144.out] at ho10)); have n0_ := Aside0.mk (Kd.R_lower ho10 (below_size (by repeat (first | (with_reducible first | exact HB.out | apply below_alloc | apply pw_below_drewN | apply below_drew1) | exact HB.out)))); have n1_ := Aside0.mk (below_step (by repeat (first | (with_reducible first | exact HB.out | apply below_alloc | apply pw_below_drewN | apply below_drew1) | exact HB.out)) hb); clear HB; have HO146 := n0_; have HB := n1_; clear n0_ n1_; clear hb ho10))
          go_loopg [6, 7] kj4 (fun kq v6 v7 w' => ∃ (x6_2 : List (S84)) (x7_2 : Int), v7 = .int .i64 x7_2 ∧ Aside0 (spec_QueueMaps.l0 kq l0 a1 x6_2 x7_2 = some (r1, r2)) ∧ Aside0 (kq ≤ kj4) ∧ Aside0 (Kd.R k84 84 w' w.heap.size (fun _ => True) v6 x6_2) ∧ Aside0 (Below w.heap.size w w'))
          case atStart => exact ⟨(y144), (0), (by first | rfl | (simp; done) | (simp [*]; done)), H', ⟨Nat.le_refl _⟩, ⟨by (with_reducible repeat (first | apply Kd.R_alloc | apply Kd.R_drewN | apply Kd.R_drew)); exact HO146.out⟩, ⟨by repeat (first | (with_reducible first | exact HB.out | apply below_alloc | apply pw_below_drewN | apply below_drew1) | exact HB.out)⟩⟩
          case round =>
            clear H'
            try clear p2
            try clear c3
            try clear c4
            try clear c7
            try clear c7b0
            try clear c8
            try clear p2
            obtain ⟨x6_2, x7_2, rfl, HA, HK2, HO_6, HB⟩ := hrel
            cases gk with
            | zero => exact absurd HA.out (by simp [spec_QueueMaps.l0])
            | succ k2 =>
              have H := HA.out
              clear HA
              simp only [spec_QueueMaps.l0] at H
              by_cases c11 : x7_2 < (l0.length : Int)
              · rw [if_pos c11] at H
                have c11b0 : decide (x7_2 < (l0.length : Int)) = true := decide_eq_true c11
                clear c11
                by_cases c12 : 0 ≤ x7_2
                · rw [if_pos c12] at H
                  have c12b0 : decide (0 ≤ x7_2) = true := decide_eq_true c12
                  clear c12
                  have H' := Aside0.mk H
                  clear H
                  have p147 : 0 ≤ (x7_2 : Int) := of_decide_eq_true (by first | (with_reducible assumption) | assumption)
                  have q147 : x7_2 < (l0.length : Int) := of_decide_eq_true (by first | (with_reducible assumption) | assumption)
                  obtain ⟨ad147, e147, hx147_0, hx147_1, hx147_2, hx147_3, hx147_4⟩ := at_T84 HR0.out x7_2 p147 q147
                  cases e147
                  replace hx147_0 := (HB.out.cell (World.block_lt_of_cell? w _ hx147_0)).trans hx147_0
                  replace hx147_1 := (HB.out.cell (World.block_lt_of_cell? w _ hx147_1)).trans hx147_1
                  replace hx147_2 := (HB.out.cell (World.block_lt_of_cell? w _ hx147_2)).trans hx147_2
                  replace hx147_3 := (HB.out.cell (World.block_lt_of_cell? w _ hx147_3)).trans hx147_3
                  replace hx147_4 := (HB.out.cell (World.block_lt_of_cell? w _ hx147_4)).trans hx147_4
                  replace p147 := eq_true p147
                  replace q147 := eq_true q147
                  go_wp2_with (first | ((with_reducible refine gate_dst (N := 8) rfl ?_); refine box_event ?hg (N := 8) ?hd (cs := #[.int .u64 0, .int .i64 0, .int .i64 0, .int .i64 0, .int .i64 0]) (t := 84) ?hr ?_; (case hd => rfl); (case hg => rfl); (case hr => first | (go_simp; done) | (go_simp; rfl)); intro gb148 hg w13 hbox hb; have n0_ := Aside0.mk (Kd.R_below (Kd.R_elderB (by (with_reducible repeat (first | apply Kd.R_alloc | apply Kd.R_drewN | apply Kd.R_drew)); exact HO_6.out) gb148 (Nat.le_of_eq hg.symm)) hb); have n1_ := Aside0.mk (below_step (by repeat (first | (with_reducible first | exact HB.out | apply below_alloc | apply pw_below_drewN | apply below_drew1) | exact HB.out)) hb); have n2_ := Aside0.mk (hbox); have n3_ := Aside0.mk ((by rw [hg]; exact (below_size (by repeat (first | (with_reducible first | exact HB.out | apply below_alloc | apply pw_below_drewN | apply below_drew1) | exact HB.out))) : w.heap.size ≤ gb148)); have n4_ := Aside0.mk ((by rw [hg]; exact (below_size (by repeat (first | (with_reducible first | exact HB.out | apply below_alloc | apply pw_below_drewN | apply below_drew1) | exact HB.out))) : w.heap.size ≤ gb148)); clear HO_6; clear HB; have HO_6 := n0_; have HB := n1_; have BK148 := n2_; have GW148 := n3_; have GE148 := n4_; clear n0_ n1_ n2_ n3_ n4_; clear hb hbox hg; have hcz14_0 : w13.cell? ⟨gb148, 0, none⟩ = some (.int .u64 0) := (blk_cell BK148.out 0).trans rfl; have hcz14_1 : w13.cell? ⟨gb148, 1, none⟩ = some (.int .i64 0) := (blk_cell BK148.out 1).trans rfl; have hcz14_2 : w13.cell? ⟨gb148, 2, none⟩ = some (.int .i64 0) := (blk_cell BK148.out 2).trans rfl; have hcz14_3 : w13.cell? ⟨gb148, 3, none⟩ = some (.int .i64 0) := (blk_cell BK148.out 3).trans rfl; have hcz14_4 : w13.cell? ⟨gb148, 4, none⟩ = some (.int .i64 0) := (blk_cell BK148.out 4).trans rfl; have hfz14_0 := blk_frozen BK148.out 0; have hfz14_1 := blk_frozen BK148.out 1; have hfz14_2 := blk_frozen BK148.out 2; have hfz14_3 := blk_frozen BK148.out 3; have hfz14_4 := blk_frozen BK148.out 4))
                  go_loopg [9, 10] k2 (fun kq v9 v10 w' => ∃ (x9_3 : Bool) (x10_3 : Int), v9 = .bool x9_3 ∧ v10 = .int .i64 x10_3 ∧ Aside0 (spec_QueueMaps.l1 kq l0 a1 x6_2 x7_2 x9_3 x10_3 ((rd_T84 l0 x7_2).f0) ((rd_T84 l0 x7_2).f1) ((rd_T84 l0 x7_2).f2) ((rd_T84 l0 x7_2).f3) ((rd_T84 l0 x7_2).f4) = some (r1, r2)) ∧ Aside0 (kq ≤ k2) ∧ Aside0 (Kd.R k84 84 w' w.heap.size (fun k_ => k_ ≠ gb148) u6 x6_2) ∧ Aside0 (w'.heap[gb148]? = some (.cells #[.int .u64 ((rd_T84 l0 x7_2).f0), .int .i64 ((rd_T84 l0 x7_2).f1), .int .i64 ((rd_T84 l0 x7_2).f2), .int .i64 ((rd_T84 l0 x7_2).f3), .int .i64 ((rd_T84 l0 x7_2).f4)] 84 (0, 0))) ∧ Aside0 (Below w.heap.size w w'))
                  case atStart => exact ⟨(false), (0), (by first | rfl | (simp; done) | (simp [*]; done)), (by first | rfl | (simp; done) | (simp [*]; done)), H', ⟨Nat.le_refl _⟩, ⟨by (with_reducible repeat (first | apply Kd.R_alloc | apply Kd.R_drewN | apply Kd.R_drew)); exact Kd.R_mono (Kd.R_far (p := ⟨gb148, 4, none⟩) (Kd.R_far (p := ⟨gb148, 3, none⟩) (Kd.R_far (p := ⟨gb148, 2, none⟩) (Kd.R_far (p := ⟨gb148, 1, none⟩) (Kd.R_far (p := ⟨gb148, 0, none⟩) (Kd.R_mono HO_6.out (fun k_ hk => (⟨hk, hk.2⟩ : _ ∧ k_ ≠ gb148))) (fun _ hk => hk.2) (.int .u64 ((rd_T84 l0 x7_2).f0))) (fun _ hk => hk.2) (.int .i64 ((rd_T84 l0 x7_2).f1))) (fun _ hk => hk.2) (.int .i64 ((rd_T84 l0 x7_2).f2))) (fun _ hk => hk.2) (.int .i64 ((rd_T84 l0 x7_2).f3))) (fun _ hk => hk.2) (.int .i64 ((rd_T84 l0 x7_2).f4))) (fun _ hk => hk.1.2)⟩, ⟨by (with_reducible repeat (first | refine blk_drewN ?_ _ | refine blk_drew ?_ | refine blk_alloc ?_ _)); refine blk_put (cs := #[.int .u64 ((rd_T84 l0 x7_2).f0), .int .i64 ((rd_T84 l0 x7_2).f1), .int .i64 ((rd_T84 l0 x7_2).f2), .int .i64 ((rd_T84 l0 x7_2).f3), .int .i64 0]) ?_ 4 _ rfl; (with_reducible repeat (first | refine blk_drewN ?_ _ | refine blk_drew ?_ | refine blk_alloc ?_ _)); refine blk_put (cs := #[.int .u64 ((rd_T84 l0 x7_2).f0), .int .i64 ((rd_T84 l0 x7_2).f1), .int .i64 ((rd_T84 l0 x7_2).f2), .int .i64 0, .int .i64 0]) ?_ 3 _ rfl; (with_reducible repeat (first | refine blk_drewN ?_ _ | refine blk_drew ?_ | refine blk_alloc ?_ _)); refine blk_put (cs := #[.int .u64 ((rd_T84 l0 x7_2).f0), .int .i64 ((rd_T84 l0 x7_2).f1), .int .i64 0, .int .i64 0, .int .i64 0]) ?_ 2 _ rfl; (with_reducible repeat (first | refine blk_drewN ?_ _ | refine blk_drew ?_ | refine blk_alloc ?_ _)); refine blk_put (cs := #[.int .u64 ((rd_T84 l0 x7_2).f0), .int .i64 0, .int .i64 0, .int .i64 0, .int .i64 0]) ?_ 1 _ rfl; (with_reducible repeat (first | refine blk_drewN ?_ _ | refine blk_drew ?_ | refine blk_alloc ?_ _)); refine blk_put (cs := #[.int .u64 0, .int .i64 0, .int .i64 0, .int .i64 0, .int .i64 0]) ?_ 0 _ rfl; (with_reducible repeat (first | refine blk_drewN ?_ _ | refine blk_drew ?_ | refine blk_alloc ?_ _)); exact BK148.out⟩, ⟨by repeat (first | (with_reducible first | exact HB.out | apply below_alloc | apply pw_below_drewN | apply below_drew1 | refine below_set ?_ GE148.out) | exact HB.out)⟩⟩
                  case round =>
                    clear H'
                    try clear c1
                    try clear p1
                    try clear q1
                    try clear hx1
                    try clear p2
                    try clear c3
                    try clear c4
                    try clear c7
                    try clear c7b0
                    try clear c8
                    try clear c11
                    try clear c11b0
                    try clear c12
                    try clear c12b0
                    try clear p14
                    try clear q14
                    try clear hx14
                    try clear hcz14_0
                    try clear hcz14_1
                    try clear hcz14_2
                    try clear hcz14_3
                    try clear hcz14_4
                    try clear hfz14_0
                    try clear hfz14_1
                    try clear hfz14_2
                    try clear hfz14_3
                    try clear hfz14_4
                    try clear hx147_0
                    try clear hx147_1
                    try clear hx147_2
                    try clear hx147_3
                    try clear hx147_4
                    try clear p147
                    try clear p2
                    try clear q147
                    obtain ⟨x9_3, x10_3, rfl, rfl, HA, HK3, HO_6, BK148, HB⟩ := hrel
                    cases gk with
                    | zero => exact absurd HA.out (by simp [spec_QueueMaps.l1])
                    | succ k3 =>
                      have H := HA.out
                      clear HA
                      simp only [spec_QueueMaps.l1] at H
                      by_cases c15 : x10_3 < 8
                      · rw [if_pos c15] at H
                        have c15b0 : decide (x10_3 < 8) = true := decide_eq_true c15
                        clear c15
                        replace H := Option.bind_eq_some_iff.mp H
                        obtain ⟨t155, A160, H⟩ := H
                        replace H : (if t155 = true then ((spec_l6Bit.f k3 a1 x10_3).bind fun t156 => (if t156 = true then (spec_QueueMaps.l1 k3 l0 a1 x6_2 x7_2 true (wrap64 (x10_3 + 1)) ((rd_T84 l0 x7_2).f0) ((rd_T84 l0 x7_2).f1) ((rd_T84 l0 x7_2).f2) ((rd_T84 l0 x7_2).f3) ((rd_T84 l0 x7_2).f4)) else (spec_QueueMaps.l1 k3 l0 a1 x6_2 x7_2 x9_3 (wrap64 (x10_3 + 1)) ((rd_T84 l0 x7_2).f0) ((rd_T84 l0 x7_2).f1) ((rd_T84 l0 x7_2).f2) ((rd_T84 l0 x7_2).f3) ((rd_T84 l0 x7_2).f4)))) else (spec_QueueMaps.l1 k3 l0 a1 x6_2 x7_2 x9_3 (wrap64 (x10_3 + 1)) ((rd_T84 l0 x7_2).f0) ((rd_T84 l0 x7_2).f1) ((rd_T84 l0 x7_2).f2) ((rd_T84 l0 x7_2).f3) ((rd_T84 l0 x7_2).f4))) = some (r1, r2) := H
                        have A16 := Aside0.mk A160
                        clear A160
                        by_cases c17 : t155 = true
                        · subst c17
                          have H1 : ((spec_l6Bit.f k3 a1 x10_3).bind fun t156 => (if t156 = true then (spec_QueueMaps.l1 k3 l0 a1 x6_2 x7_2 true (wrap64 (x10_3 + 1)) ((rd_T84 l0 x7_2).f0) ((rd_T84 l0 x7_2).f1) ((rd_T84 l0 x7_2).f2) ((rd_T84 l0 x7_2).f3) ((rd_T84 l0 x7_2).f4)) else (spec_QueueMaps.l1 k3 l0 a1 x6_2 x7_2 x9_3 (wrap64 (x10_3 + 1)) ((rd_T84 l0 x7_2).f0) ((rd_T84 l0 x7_2).f1) ((rd_T84 l0 x7_2).f2) ((rd_T84 l0 x7_2).f3) ((rd_T84 l0 x7_2).f4)))) = some (r1, r2) := by rw [if_pos rfl] at H; exact H
                          clear H
                          have H := H1
                          clear H1
                          replace H := Option.bind_eq_some_iff.mp H
                          obtain ⟨t156, A180, H⟩ := H
                          replace H : (if t156 = true then (spec_QueueMaps.l1 k3 l0 a1 x6_2 x7_2 true (wrap64 (x10_3 + 1)) ((rd_T84 l0 x7_2).f0) ((rd_T84 l0 x7_2).f1) ((rd_T84 l0 x7_2).f2) ((rd_T84 l0 x7_2).f3) ((rd_T84 l0 x7_2).f4)) else (spec_QueueMaps.l1 k3 l0 a1 x6_2 x7_2 x9_3 (wrap64 (x10_3 + 1)) ((rd_T84 l0 x7_2).f0) ((rd_T84 l0 x7_2).f1) ((rd_T84 l0 x7_2).f2) ((rd_T84 l0 x7_2).f3) ((rd_T84 l0 x7_2).f4))) = some (r1, r2) := H
                          have A18 := Aside0.mk A180
                          clear A180
                          by_cases c19 : t156 = true
                          · subst c19
                            have H1 : (spec_QueueMaps.l1 k3 l0 a1 x6_2 x7_2 true (wrap64 (x10_3 + 1)) ((rd_T84 l0 x7_2).f0) ((rd_T84 l0 x7_2).f1) ((rd_T84 l0 x7_2).f2) ((rd_T84 l0 x7_2).f3) ((rd_T84 l0 x7_2).f4)) = some (r1, r2) := by rw [if_pos rfl] at H; exact H
                            clear H
                            have H := H1
                            clear H1
                            have H' := Aside0.mk H
                            clear H
                            have hcz20_0 : wr.cell? ⟨gb148, 0, none⟩ = some (.int .u64 ((rd_T84 l0 x7_2).f0)) := (blk_cell BK148.out 0).trans rfl
                            have hcz20_1 : wr.cell? ⟨gb148, 1, none⟩ = some (.int .i64 ((rd_T84 l0 x7_2).f1)) := (blk_cell BK148.out 1).trans rfl
                            have hcz20_2 : wr.cell? ⟨gb148, 2, none⟩ = some (.int .i64 ((rd_T84 l0 x7_2).f2)) := (blk_cell BK148.out 2).trans rfl
                            have hcz20_3 : wr.cell? ⟨gb148, 3, none⟩ = some (.int .i64 ((rd_T84 l0 x7_2).f3)) := (blk_cell BK148.out 3).trans rfl
                            have hcz20_4 : wr.cell? ⟨gb148, 4, none⟩ = some (.int .i64 ((rd_T84 l0 x7_2).f4)) := (blk_cell BK148.out 4).trans rfl
                            have hfz20_0 := blk_frozen BK148.out 0
                            have hfz20_1 := blk_frozen BK148.out 1
                            have hfz20_2 := blk_frozen BK148.out 2
                            have hfz20_3 := blk_frozen BK148.out 3
                            have hfz20_4 := blk_frozen BK148.out 4
                            go_wp2_with (first | ((with_reducible refine gate_callee (f := 77) rfl ?_); refine goesL_ (some 38) rfl rfl Try.func77 (by kernel_rfl) rfl #[.int .i64 ((rd_T84 l0 x7_2).f3), .int .i64 x10_3] rfl (by (try simp only [List.map_toArray, List.map_cons, List.map_nil]); first | done | rfl | (simp only [List.length_drop, List.length_take]; rfl)) ?_; (with_reducible refine (spec_l6Bit.calls k3 ((rd_T84 l0 x7_2).f3) x10_3 true _ A16.out).mono ?_); rintro e w' ⟨rfl, ⟨nd, rfl⟩⟩; refine ⟨_, rfl, ?_⟩) | (go_at_call 77; (with_reducible refine (spec_l6Bit.calls k3 a1 x10_3 true _ A18.out).mono ?_); rintro e w' ⟨rfl, ⟨nd, rfl⟩⟩))
                            go_roundg k3
                            case measure => have := HJ4.out; have := HK2.out; have := HK3.out; omega
                            case rel => exact ⟨(true), (wrap64 (x10_3 + 1)), (by first | rfl | (simp; done) | (simp [*]; done)), (by first | rfl | (simp; done) | (simp [*]; done)), H', ⟨by have := HJ4.out; have := HK2.out; have := HK3.out; omega⟩, ⟨by (with_reducible repeat (first | apply Kd.R_alloc | apply Kd.R_drewN | apply Kd.R_drew)); exact HO_6.out⟩, ⟨by (with_reducible repeat (first | refine blk_drewN ?_ _ | refine blk_drew ?_ | refine blk_alloc ?_ _)); exact BK148.out⟩, ⟨by repeat (first | (with_reducible first | exact HB.out | apply below_alloc | apply pw_below_drewN | apply below_drew1 | refine below_set ?_ GE148.out) | exact HB.out)⟩⟩
                          · replace c19 := Bool.eq_false_iff.mpr c19
                            subst c19
                            have H1 : (spec_QueueMaps.l1 k3 l0 a1 x6_2 x7_2 x9_3 (wrap64 (x10_3 + 1)) ((rd_T84 l0 x7_2).f0) ((rd_T84 l0 x7_2).f1) ((rd_T84 l0 x7_2).f2) ((rd_T84 l0 x7_2).f3) ((rd_T84 l0 x7_2).f4)) = some (r1, r2) := by rw [if_neg (show ¬ (false = true) by decide)] at H; exact H
                            clear H
                            have H := H1
                            clear H1
                            have H' := Aside0.mk H
                            clear H
                            have hcz21_0 : wr.cell? ⟨gb148, 0, none⟩ = some (.int .u64 ((rd_T84 l0 x7_2).f0)) := (blk_cell BK148.out 0).trans rfl
                            have hcz21_1 : wr.cell? ⟨gb148, 1, none⟩ = some (.int .i64 ((rd_T84 l0 x7_2).f1)) := (blk_cell BK148.out 1).trans rfl
                            have hcz21_2 : wr.cell? ⟨gb148, 2, none⟩ = some (.int .i64 ((rd_T84 l0 x7_2).f2)) := (blk_cell BK148.out 2).trans rfl
                            have hcz21_3 : wr.cell? ⟨gb148, 3, none⟩ = some (.int .i64 ((rd_T84 l0 x7_2).f3)) := (blk_cell BK148.out 3).trans rfl
                            have hcz21_4 : wr.cell? ⟨gb148, 4, none⟩ = some (.int .i64 ((rd_T84 l0 x7_2).f4)) := (blk_cell BK148.out 4).trans rfl
                            have hfz21_0 := blk_frozen BK148.out 0
                            have hfz21_1 := blk_frozen BK148.out 1
                            have hfz21_2 := blk_frozen BK148.out 2
                            have hfz21_3 := blk_frozen BK148.out 3
                            have hfz21_4 := blk_frozen BK148.out 4
                            go_wp2_with (first | ((with_reducible refine gate_callee (f := 77) rfl ?_); refine goesL_ (some 38) rfl rfl Try.func77 (by kernel_rfl) rfl #[.int .i64 ((rd_T84 l0 x7_2).f3), .int .i64 x10_3] rfl (by (try simp only [List.map_toArray, List.map_cons, List.map_nil]); first | done | rfl | (simp only [List.length_drop, List.length_take]; rfl)) ?_; (with_reducible refine (spec_l6Bit.calls k3 ((rd_T84 l0 x7_2).f3) x10_3 true _ A16.out).mono ?_); rintro e w' ⟨rfl, ⟨nd, rfl⟩⟩; refine ⟨_, rfl, ?_⟩) | (go_at_call 77; (with_reducible refine (spec_l6Bit.calls k3 a1 x10_3 false _ A18.out).mono ?_); rintro e w' ⟨rfl, ⟨nd, rfl⟩⟩))
                            go_roundg k3
                            case measure => have := HJ4.out; have := HK2.out; have := HK3.out; omega
                            case rel => exact ⟨(x9_3), (wrap64 (x10_3 + 1)), (by first | rfl | (simp; done) | (simp [*]; done)), (by first | rfl | (simp; done) | (simp [*]; done)), H', ⟨by have := HJ4.out; have := HK2.out; have := HK3.out; omega⟩, ⟨by (with_reducible repeat (first | apply Kd.R_alloc | apply Kd.R_drewN | apply Kd.R_drew)); exact HO_6.out⟩, ⟨by (with_reducible repeat (first | refine blk_drewN ?_ _ | refine blk_drew ?_ | refine blk_alloc ?_ _)); exact BK148.out⟩, ⟨by repeat (first | (with_reducible first | exact HB.out | apply below_alloc | apply pw_below_drewN | apply below_drew1 | refine below_set ?_ GE148.out) | exact HB.out)⟩⟩
                        · replace c17 := Bool.eq_false_iff.mpr c17
                          subst c17
                          have H1 : (spec_QueueMaps.l1 k3 l0 a1 x6_2 x7_2 x9_3 (wrap64 (x10_3 + 1)) ((rd_T84 l0 x7_2).f0) ((rd_T84 l0 x7_2).f1) ((rd_T84 l0 x7_2).f2) ((rd_T84 l0 x7_2).f3) ((rd_T84 l0 x7_2).f4)) = some (r1, r2) := by rw [if_neg (show ¬ (false = true) by decide)] at H; exact H
                          clear H
                          have H := H1
                          clear H1
                          have H' := Aside0.mk H
                          clear H
                          have hcz22_0 : wr.cell? ⟨gb148, 0, none⟩ = some (.int .u64 ((rd_T84 l0 x7_2).f0)) := (blk_cell BK148.out 0).trans rfl
                          have hcz22_1 : wr.cell? ⟨gb148, 1, none⟩ = some (.int .i64 ((rd_T84 l0 x7_2).f1)) := (blk_cell BK148.out 1).trans rfl
                          have hcz22_2 : wr.cell? ⟨gb148, 2, none⟩ = some (.int .i64 ((rd_T84 l0 x7_2).f2)) := (blk_cell BK148.out 2).trans rfl
                          have hcz22_3 : wr.cell? ⟨gb148, 3, none⟩ = some (.int .i64 ((rd_T84 l0 x7_2).f3)) := (blk_cell BK148.out 3).trans rfl
                          have hcz22_4 : wr.cell? ⟨gb148, 4, none⟩ = some (.int .i64 ((rd_T84 l0 x7_2).f4)) := (blk_cell BK148.out 4).trans rfl
                          have hfz22_0 := blk_frozen BK148.out 0
                          have hfz22_1 := blk_frozen BK148.out 1
                          have hfz22_2 := blk_frozen BK148.out 2
                          have hfz22_3 := blk_frozen BK148.out 3
                          have hfz22_4 := blk_frozen BK148.out 4
                          go_wp2_with (first | ((with_reducible refine gate_callee (f := 77) rfl ?_); refine goesL_ (some 38) rfl rfl Try.func77 (by kernel_rfl) rfl #[.int .i64 ((rd_T84 l0 x7_2).f3), .int .i64 x10_3] rfl (by (try simp only [List.map_toArray, List.map_cons, List.map_nil]); first | done | rfl | (simp only [List.length_drop, List.length_take]; rfl)) ?_; (with_reducible refine (spec_l6Bit.calls k3 ((rd_T84 l0 x7_2).f3) x10_3 false _ A16.out).mono ?_); rintro e w' ⟨rfl, ⟨nd, rfl⟩⟩; refine ⟨_, rfl, ?_⟩))
                          go_roundg k3
                          case measure => have := HJ4.out; have := HK2.out; have := HK3.out; omega
                          case rel => exact ⟨(x9_3), (wrap64 (x10_3 + 1)), (by first | rfl | (simp; done) | (simp [*]; done)), (by first | rfl | (simp; done) | (simp [*]; done)), H', ⟨by have := HJ4.out; have := HK2.out; have := HK3.out; omega⟩, ⟨by (with_reducible repeat (first | apply Kd.R_alloc | apply Kd.R_drewN | apply Kd.R_drew)); exact HO_6.out⟩, ⟨by (with_reducible repeat (first | refine blk_drewN ?_ _ | refine blk_drew ?_ | refine blk_alloc ?_ _)); exact BK148.out⟩, ⟨by repeat (first | (with_reducible first | exact HB.out | apply below_alloc | apply pw_below_drewN | apply below_drew1 | refine below_set ?_ GE148.out) | exact HB.out)⟩⟩
                      · rw [if_neg c15] at H
                        have c15b0 : decide (x10_3 < 8) = false := decide_eq_false c15
                        clear c15
                        by_cases c23 : x9_3 = true
                        · subst c23
                          have H1 : (if x6_2.length < 3518437208883 then (spec_QueueMaps.l0 k3 l0 a1 (x6_2 ++ [(⟨((rd_T84 l0 x7_2).f0), ((rd_T84 l0 x7_2).f1), ((rd_T84 l0 x7_2).f2), ((rd_T84 l0 x7_2).f3), ((rd_T84 l0 x7_2).f4)⟩ : S84)]) (wrap64 (x7_2 + 1))) else (none)) = some (r1, r2) := by rw [if_pos rfl] at H; exact H
                          clear H
                          have H := H1
                          clear H1
                          by_cases c24 : x6_2.length < 3518437208883
                          · rw [if_pos c24] at H
                            have LMc24 := Aside0.mk c24
                            clear c24
                            obtain ⟨y149, hy149⟩ : ∃ y_ : List (S84), y_ = (x6_2 ++ [(⟨((rd_T84 l0 x7_2).f0), ((rd_T84 l0 x7_2).f1), ((rd_T84 l0 x7_2).f2), ((rd_T84 l0 x7_2).f3), ((rd_T84 l0 x7_2).f4)⟩ : S84)]) := ⟨_, rfl⟩
                            replace H : (spec_QueueMaps.l0 k3 l0 a1 y149 (wrap64 (x7_2 + 1))) = some (r1, r2) := by first | (rw [hy149]; with_reducible exact H) | (have H2_ := (Option.bind_some _ _).symm.trans H; rw [hy149]; with_reducible exact H2_) | (have H2_ := (Option.bind_some _ _).symm.trans H; with_reducible exact H2_) | with_reducible exact H | (rw [hy149]; exact H) | exact H
                            have Ny149 := Aside0.mk hy149
                            clear hy149
                            have H' := Aside0.mk H
                            clear H
                            have hcz25_0 : wr.cell? ⟨gb148, 0, none⟩ = some (.int .u64 ((rd_T84 l0 x7_2).f0)) := (blk_cell BK148.out 0).trans rfl
                            have hcz25_1 : wr.cell? ⟨gb148, 1, none⟩ = some (.int .i64 ((rd_T84 l0 x7_2).f1)) := (blk_cell BK148.out 1).trans rfl
                            have hcz25_2 : wr.cell? ⟨gb148, 2, none⟩ = some (.int .i64 ((rd_T84 l0 x7_2).f2)) := (blk_cell BK148.out 2).trans rfl
                            have hcz25_3 : wr.cell? ⟨gb148, 3, none⟩ = some (.int .i64 ((rd_T84 l0 x7_2).f3)) := (blk_cell BK148.out 3).trans rfl
                            have hcz25_4 : wr.cell? ⟨gb148, 4, none⟩ = some (.int .i64 ((rd_T84 l0 x7_2).f4)) := (blk_cell BK148.out 4).trans rfl
                            have hfz25_0 := blk_frozen BK148.out 0
                            have hfz25_1 := blk_frozen BK148.out 1
                            have hfz25_2 := blk_frozen BK148.out 2
                            have hfz25_3 := blk_frozen BK148.out 3
                            have hfz25_4 := blk_frozen BK148.out 4
                            go_wp2_with (first | ((with_reducible refine gate_builtin (b := .append) (xs := #[.tmp 47, .tmp 49]) rfl ?_); at_builtin; refine Kd.R_append k84 (w0 := w) w.heap.size rfl (.tmp 47) (.tmp 49) 46 84 (.agg #[(.int .u64 0), (.int .i64 0), (.int .i64 0), (.int .i64 0), (.int .i64 0)]) 40 rfl Try.underlying46 info84 rfl (by decide) (by omega) u6 x6_2 (⟨((rd_T84 l0 x7_2).f0), ((rd_T84 l0 x7_2).f1), ((rd_T84 l0 x7_2).f2), ((rd_T84 l0 x7_2).f3), ((rd_T84 l0 x7_2).f4)⟩ : S84) [.int .u64 ((rd_T84 l0 x7_2).f0), .int .i64 ((rd_T84 l0 x7_2).f1), .int .i64 ((rd_T84 l0 x7_2).f2), .int .i64 ((rd_T84 l0 x7_2).f3), .int .i64 ((rd_T84 l0 x7_2).f4)] (fun k_ => k_ ≠ gb148) (fun _ => False) rfl rfl ?aP (fun _ hk => hk.elim) ?aF ?aO ?aB ?aS ?aL ?_; (case aP => exact k84_mkM _ _ _ (⟨((rd_T84 l0 x7_2).f0), ((rd_T84 l0 x7_2).f1), ((rd_T84 l0 x7_2).f2), ((rd_T84 l0 x7_2).f3), ((rd_T84 l0 x7_2).f4)⟩ : S84)); (case aB => exact (by repeat (first | (with_reducible first | exact HB.out | apply below_alloc | apply pw_below_drewN | apply below_drew1 | refine below_set ?_ GE148.out) | exact HB.out))); (case aF => exact (fun k_ hk => Kd.freshB (g := gb148) (o := .cells #[.int .u64 ((rd_T84 l0 x7_2).f0), .int .i64 ((rd_T84 l0 x7_2).f1), .int .i64 ((rd_T84 l0 x7_2).f2), .int .i64 ((rd_T84 l0 x7_2).f3), .int .i64 ((rd_T84 l0 x7_2).f4)] 84 (0, 0)) (by (with_reducible repeat (first | refine blk_drewN ?_ _ | refine blk_drew ?_ | refine blk_alloc ?_ _)); exact BK148.out) k_ hk)); (case aO => exact (by (with_reducible repeat (first | apply Kd.R_alloc | apply Kd.R_drewN | apply Kd.R_drew)); exact HO_6.out)); (case aS => exact (below_size (by repeat (first | (with_reducible first | exact HB.out | apply below_alloc | apply pw_below_drewN | apply below_drew1 | refine below_set ?_ GE148.out) | exact HB.out)))); (case aL => have := LMc24.out; omega); intro v150 w26 ho hb hg hat; rw [← Ny149.out] at ho; have n0_ := Aside0.mk (blk_grown (g := gb148) (o := .cells #[.int .u64 ((rd_T84 l0 x7_2).f0), .int .i64 ((rd_T84 l0 x7_2).f1), .int .i64 ((rd_T84 l0 x7_2).f2), .int .i64 ((rd_T84 l0 x7_2).f3), .int .i64 ((rd_T84 l0 x7_2).f4)] 84 (0, 0)) (by (with_reducible repeat (first | refine blk_drewN ?_ _ | refine blk_drew ?_ | refine blk_alloc ?_ _)); exact BK148.out) hg (Kd.R_away HO_6.out (fun _ hk => hk))); have n1_ := Aside0.mk (hb); have n2_ := Aside0.mk (ho); clear BK148; clear HB; clear HO_6; have BK148 := n0_; have HB := n1_; have HO151 := n2_; clear n0_ n1_ n2_; clear ho hb hg hat))
                            go_roundg k3
                            case measure => have := HJ4.out; have := HK2.out; have := HK3.out; omega
                            case rel => exact ⟨(y149), (wrap64 (x7_2 + 1)), (by first | rfl | (simp; done) | (simp [*]; done)), H', ⟨by have := HJ4.out; have := HK2.out; have := HK3.out; omega⟩, ⟨by (with_reducible repeat (first | apply Kd.R_alloc | apply Kd.R_drewN | apply Kd.R_drew)); exact Kd.R_mono HO151.out (fun _ hk => trivial)⟩, ⟨by repeat (first | (with_reducible first | exact HB.out | apply below_alloc | apply pw_below_drewN | apply below_drew1 | refine below_set ?_ GE148.out) | exact HB.out)⟩⟩
                          · rw [if_neg c24] at H
                            exact absurd H (by simp)
                        · replace c23 := Bool.eq_false_iff.mpr c23
                          subst c23
                          have H1 : (if x6_2.length < 3518437208883 then (spec_QueueMaps.l0 k3 l0 a1 (x6_2 ++ [(⟨((rd_T84 l0 x7_2).f0), ((rd_T84 l0 x7_2).f1), ((rd_T84 l0 x7_2).f2), ((rd_T84 l0 x7_2).f3), 1⟩ : S84)]) (wrap64 (x7_2 + 1))) else (none)) = some (r1, r2) := by rw [if_neg (show ¬ (false = true) by decide)] at H; exact H
                          clear H
                          have H := H1
                          clear H1
                          by_cases c27 : x6_2.length < 3518437208883
                          · rw [if_pos c27] at H
                            have LMc27 := Aside0.mk c27
                            clear c27
                            obtain ⟨y152, hy152⟩ : ∃ y_ : List (S84), y_ = (x6_2 ++ [(⟨((rd_T84 l0 x7_2).f0), ((rd_T84 l0 x7_2).f1), ((rd_T84 l0 x7_2).f2), ((rd_T84 l0 x7_2).f3), 1⟩ : S84)]) := ⟨_, rfl⟩
                            replace H : (spec_QueueMaps.l0 k3 l0 a1 y152 (wrap64 (x7_2 + 1))) = some (r1, r2) := by first | (rw [hy152]; with_reducible exact H) | (have H2_ := (Option.bind_some _ _).symm.trans H; rw [hy152]; with_reducible exact H2_) | (have H2_ := (Option.bind_some _ _).symm.trans H; with_reducible exact H2_) | with_reducible exact H | (rw [hy152]; exact H) | exact H
                            have Ny152 := Aside0.mk hy152
                            clear hy152
                            have H' := Aside0.mk H
                            clear H
                            have hcz28_0 : wr.cell? ⟨gb148, 0, none⟩ = some (.int .u64 ((rd_T84 l0 x7_2).f0)) := (blk_cell BK148.out 0).trans rfl
                            have hcz28_1 : wr.cell? ⟨gb148, 1, none⟩ = some (.int .i64 ((rd_T84 l0 x7_2).f1)) := (blk_cell BK148.out 1).trans rfl
                            have hcz28_2 : wr.cell? ⟨gb148, 2, none⟩ = some (.int .i64 ((rd_T84 l0 x7_2).f2)) := (blk_cell BK148.out 2).trans rfl
                            have hcz28_3 : wr.cell? ⟨gb148, 3, none⟩ = some (.int .i64 ((rd_T84 l0 x7_2).f3)) := (blk_cell BK148.out 3).trans rfl
                            have hcz28_4 : wr.cell? ⟨gb148, 4, none⟩ = some (.int .i64 ((rd_T84 l0 x7_2).f4)) := (blk_cell BK148.out 4).trans rfl
                            have hfz28_0 := blk_frozen BK148.out 0
                            have hfz28_1 := blk_frozen BK148.out 1
                            have hfz28_2 := blk_frozen BK148.out 2
                            have hfz28_3 := blk_frozen BK148.out 3
                            have hfz28_4 := blk_frozen BK148.out 4
                            go_wp2_with (first | ((with_reducible refine gate_builtin (b := .append) (xs := #[.tmp 47, .tmp 49]) rfl ?_); at_builtin; refine Kd.R_append k84 (w0 := w) w.heap.size rfl (.tmp 47) (.tmp 49) 46 84 (.agg #[(.int .u64 0), (.int .i64 0), (.int .i64 0), (.int .i64 0), (.int .i64 0)]) 40 rfl Try.underlying46 info84 rfl (by decide) (by omega) u6 x6_2 (⟨((rd_T84 l0 x7_2).f0), ((rd_T84 l0 x7_2).f1), ((rd_T84 l0 x7_2).f2), ((rd_T84 l0 x7_2).f3), 1⟩ : S84) [.int .u64 ((rd_T84 l0 x7_2).f0), .int .i64 ((rd_T84 l0 x7_2).f1), .int .i64 ((rd_T84 l0 x7_2).f2), .int .i64 ((rd_T84 l0 x7_2).f3), .int .i64 1] (fun k_ => k_ ≠ gb148) (fun _ => False) rfl (by first | (go_simp; done) | (go_simp; rfl)) ?aP (fun _ hk => hk.elim) ?aF ?aO ?aB ?aS ?aL ?_; (case aP => exact k84_mkM _ _ _ (⟨((rd_T84 l0 x7_2).f0), ((rd_T84 l0 x7_2).f1), ((rd_T84 l0 x7_2).f2), ((rd_T84 l0 x7_2).f3), 1⟩ : S84)); (case aB => exact (by repeat (first | (with_reducible first | exact HB.out | apply below_alloc | apply pw_below_drewN | apply below_drew1 | refine below_set ?_ GE148.out) | exact HB.out))); (case aF => exact (fun k_ hk => Kd.freshB (g := gb148) (o := .cells #[.int .u64 ((rd_T84 l0 x7_2).f0), .int .i64 ((rd_T84 l0 x7_2).f1), .int .i64 ((rd_T84 l0 x7_2).f2), .int .i64 ((rd_T84 l0 x7_2).f3), .int .i64 1] 84 (0, 0)) (by (with_reducible repeat (first | refine blk_drewN ?_ _ | refine blk_drew ?_ | refine blk_alloc ?_ _)); refine blk_put (cs := #[.int .u64 ((rd_T84 l0 x7_2).f0), .int .i64 ((rd_T84 l0 x7_2).f1), .int .i64 ((rd_T84 l0 x7_2).f2), .int .i64 ((rd_T84 l0 x7_2).f3), .int .i64 ((rd_T84 l0 x7_2).f4)]) ?_ 4 _ rfl; (with_reducible repeat (first | refine blk_drewN ?_ _ | refine blk_drew ?_ | refine blk_alloc ?_ _)); exact BK148.out) k_ hk)); (case aO => exact (by (with_reducible repeat (first | apply Kd.R_alloc | apply Kd.R_drewN | apply Kd.R_drew)); exact Kd.R_mono (Kd.R_far (p := ⟨gb148, 4, none⟩) (Kd.R_mono HO_6.out (fun k_ hk => (⟨hk, hk⟩ : _ ∧ k_ ≠ gb148))) (fun _ hk => hk.2) (.int .i64 1)) (fun _ hk => hk.1))); (case aS => exact (below_size (by repeat (first | (with_reducible first | exact HB.out | apply below_alloc | apply pw_below_drewN | apply below_drew1 | refine below_set ?_ GE148.out) | exact HB.out)))); (case aL => have := LMc27.out; omega); intro v153 w29 ho hb hg hat; rw [← Ny152.out] at ho; have n0_ := Aside0.mk (blk_grown (g := gb148) (o := .cells #[.int .u64 ((rd_T84 l0 x7_2).f0), .int .i64 ((rd_T84 l0 x7_2).f1), .int .i64 ((rd_T84 l0 x7_2).f2), .int .i64 ((rd_T84 l0 x7_2).f3), .int .i64 1] 84 (0, 0)) (by (with_reducible repeat (first | refine blk_drewN ?_ _ | refine blk_drew ?_ | refine blk_alloc ?_ _)); refine blk_put (cs := #[.int .u64 ((rd_T84 l0 x7_2).f0), .int .i64 ((rd_T84 l0 x7_2).f1), .int .i64 ((rd_T84 l0 x7_2).f2), .int .i64 ((rd_T84 l0 x7_2).f3), .int .i64 ((rd_T84 l0 x7_2).f4)]) ?_ 4 _ rfl; (with_reducible repeat (first | refine blk_drewN ?_ _ | refine blk_drew ?_ | refine blk_alloc ?_ _)); exact BK148.out) hg (Kd.R_away HO_6.out (fun _ hk => hk))); have n1_ := Aside0.mk (hb); have n2_ := Aside0.mk (ho); clear BK148; clear HB; clear HO_6; have BK148 := n0_; have HB := n1_; have HO154 := n2_; clear n0_ n1_ n2_; clear ho hb hg hat))
                            go_roundg k3
                            case measure => have := HJ4.out; have := HK2.out; have := HK3.out; omega
                            case rel => exact ⟨(y152), (wrap64 (x7_2 + 1)), (by first | rfl | (simp; done) | (simp [*]; done)), H', ⟨by have := HJ4.out; have := HK2.out; have := HK3.out; omega⟩, ⟨by (with_reducible repeat (first | apply Kd.R_alloc | apply Kd.R_drewN | apply Kd.R_drew)); exact Kd.R_mono HO154.out (fun _ hk => trivial)⟩, ⟨by repeat (first | (with_reducible first | exact HB.out | apply below_alloc | apply pw_below_drewN | apply below_drew1 | refine below_set ?_ GE148.out) | exact HB.out)⟩⟩
                          · rw [if_neg c27] at H
                            exact absurd H (by simp)
                · rw [if_neg c12] at H
                  exact absurd H (by simp)
              · rw [if_neg c11] at H
                have c11b0 : decide (x7_2 < (l0.length : Int)) = false := decide_eq_false c11
                clear c11
                simp only [Option.some.injEq, Prod.mk.injEq] at H
                obtain ⟨rfl, rfl⟩ := H
                go_wp2
                go_ret2
                exact ⟨_, by first | rfl | (simp [errW_none, errW_some] <;> rfl) | (simp [*, errW_none, errW_some] <;> rfl), by (with_reducible repeat (first | apply Kd.R_alloc | apply Kd.R_drewN | apply Kd.R_drew)); exact HO_6.out, by repeat (first | (with_reducible first | exact HB.out | apply below_alloc | apply pw_below_drewN | apply below_drew1) | exact HB.out)⟩
  · replace c4 := Bool.eq_false_iff.mpr c4
    subst c4
    have H1 : (some (([] : List (S84)), 1)) = some (r1, r2) := by rw [if_neg (show ¬ (false = true) by decide)] at H; exact H
    clear H
    have H := H1
    clear H1
    simp only [Option.some.injEq, Prod.mk.injEq] at H
    obtain ⟨rfl, rfl⟩ := H
    go_enter Try.func34, Try.ntmps34
    go_wp2_with (first | ((with_reducible refine gate_callee (f := 72) rfl ?_); refine goesL_ (some 12) rfl rfl Try.func72 (by kernel_rfl) rfl #[.slice A0 l0.length c0] rfl (by (try simp only [List.map_toArray, List.map_cons, List.map_nil]); first | done | rfl | (simp only [List.length_drop, List.length_take]; rfl)) ?_; (with_reducible refine (spec_l6MapsOK.calls k _ _ l0 false _ ?side1 ?side2 A3.out).mono ?_); (case side1 => repeat (first | exact HR0.out | (with_reducible refine Kd.C_alloc ?_ _) | (with_reducible refine Kd.C_drewN ?_ _) | (with_reducible refine Kd.C_drew ?_))); (case side2 => exact HC0.out); rintro e w30 ⟨rfl, hb⟩; refine ⟨_, rfl, ?_⟩; have n0_ := Aside0.mk (below_step (by repeat (first | (with_reducible first | exact HB.out | apply below_alloc | apply pw_below_drewN | apply below_drew1) | exact HB.out)) hb); clear HB; have HB := n0_; clear n0_; (try clear hb); (try clear hb2); (try clear hk); (try clear hi)))
    go_ret2
    exact ⟨_, by first | rfl | (simp [errW_none, errW_some] <;> rfl) | (simp [*, errW_none, errW_some] <;> rfl), by first | exact Kd.R_nil _ _ _ _ _ | exact Kd.N_nil _ _ _ _ _ | exact Kd.V_nil _ _ _ _ _ | exact Kd.Q_nil _ _ _ _ _ | exact Kd.S_nil _ _ _ _ _, by repeat (first | (with_reducible first | exact HB.out | apply below_alloc | apply pw_below_drewN | apply below_drew1) | exact HB.out)⟩

end Go.Proofs.Ytakeenidhkhmiaa.PFnExactQueueMaps
