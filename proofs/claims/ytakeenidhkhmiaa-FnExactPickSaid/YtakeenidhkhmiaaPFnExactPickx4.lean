-- by a program of this session (wip/pr)
import Derived.Test.YtakeenidhkhmiaaPFnExactPickx0
import Derived.Test.YtakeenidhkhmiaaPFnExactPickx2
namespace Go.Proofs.Ytakeenidhkhmiaa.PFnExactPick
open Go.RowKit Go.Proofs.YtakeenidhkhmiaaW.PrintWords Go.Proofs.YtakeenidhkhmiaaW.PrintLast Go.Proofs.YtakeenidhkhmiaaW.PrintMore
attribute [local go_sem] max2_int min2_int max_two min_two max_three min_three max_four min_four   -- for this text's walks alone
set_option linter.unusedVariables false
set_option linter.unusedSimpArgs false

/-! ### impl_choose_v113: function 83 -/
mutual
def impl_choose_v113.l0 : Nat → Int → Int → Int → List (S86) → Int → Int → List Int → Int → Int → Int → Option (List Int × Int)
  | 0, _, _, _, _, _, _, _, _, _, _ => none
  | k + 1, x1, x2, x3, x4, x5, x14, x15, x16, x22, x23 => if x23 < x22 then (if 0 ≤ x23 then (if x23 < (x4.length : Int) then (if ((rd_T86 x4 x23).f0) = 1 then (if ((rd_T86 x4 x23).f2) = 0 then (impl_choose_v113.j1 k x1 x2 x3 x4 x5 x14 x15 x16 x23 x22 x23 true ((rd_T86 x4 x23).f0) ((rd_T86 x4 x23).f1) ((rd_T86 x4 x23).f2)) else (impl_choose_v113.j1 k x1 x2 x3 x4 x5 x14 x15 x16 x23 x22 x23 ((Go.bits .and .i64 (shr .i64 x5 x23) 1) == 1) ((rd_T86 x4 x23).f0) ((rd_T86 x4 x23).f1) ((rd_T86 x4 x23).f2))) else (impl_choose_v113.j1 k x1 x2 x3 x4 x5 x14 x15 x16 x23 x22 x23 true ((rd_T86 x4 x23).f0) ((rd_T86 x4 x23).f1) ((rd_T86 x4 x23).f2))) else (none)) else (none)) else (if x1 = 1 then (if (x15.length : Int) > 0 then (if 0 < (x15.length : Int) then (if x14 = 0 then (none) else (some (x15, Int.tmod (wrap64 ((rd x15 0) + 1)) x14))) else (none)) else (some (x15, x2))) else (some (x15, x2)))
def impl_choose_v113.j1 : Nat → Int → Int → Int → List (S86) → Int → Int → List Int → Int → Int → Int → Int → Bool → Int → Int → Int → Option (List Int × Int)
  | 0, _, _, _, _, _, _, _, _, _, _, _, _, _, _, _ => none
  | k + 1, x1, x2, x3, x4, x5, x14, x15, x16, x17, x22, x23, x44, x154000, x154001, x154002 => if x44 = true then (impl_choose_v113.l0 k x1 x2 x3 x4 x5 x14 x15 x16 x22 (wrap64 (x23 + 1))) else ((impl_policyOf_1.f x17 x154000 x154001 x154002 x14 x2 x3).bind fun t154 => (if (x15.length : Int) = 0 then (impl_choose_v113.j2 k x1 x2 x3 x4 x5 x14 x15 x16 x17 t154 x22 x23 true) else (impl_choose_v113.j2 k x1 x2 x3 x4 x5 x14 x15 x16 x17 t154 x22 x23 (decide (t154 < x16)))))
def impl_choose_v113.j2 : Nat → Int → Int → Int → List (S86) → Int → Int → List Int → Int → Int → Int → Int → Int → Bool → Option (List Int × Int)
  | 0, _, _, _, _, _, _, _, _, _, _, _, _, _ => none
  | k + 1, x1, x2, x3, x4, x5, x14, x15, x16, x17, x19, x22, x23, x60 => if x60 = true then (impl_choose_v113.l0 k x1 x2 x3 x4 x5 x14 (([x17] : List Int)) x19 x22 (wrap64 (x23 + 1))) else (if x19 = x16 then (if x15.length < 17592186044416 then (impl_choose_v113.l0 k x1 x2 x3 x4 x5 x14 (x15 ++ [x17]) x16 x22 (wrap64 (x23 + 1))) else (none)) else (impl_choose_v113.l0 k x1 x2 x3 x4 x5 x14 x15 x16 x22 (wrap64 (x23 + 1))))
end
def impl_choose_v113.f (k : Nat) (a0_0 : ByteArray) (a1 : Int) (a2 : Int) (a3 : Int) (l4 : List (S86)) (a5 : Int) : Option (List Int × Int) := impl_choose_v113.l0 k a1 a2 a3 l4 a5 (l4.length : Int) ([] : List Int) 0 (l4.length : Int) 0
theorem impl_choose_v113.mono_l : ∀ k, (∀ y0 y1 y2 y3 y4 y5 y6 y7 y8 y9, LeO (impl_choose_v113.l0 k y0 y1 y2 y3 y4 y5 y6 y7 y8 y9) (impl_choose_v113.l0 (k + 1) y0 y1 y2 y3 y4 y5 y6 y7 y8 y9)) ∧ (∀ y0 y1 y2 y3 y4 y5 y6 y7 y8 y9 y10 y11 y12 y13 y14, LeO (impl_choose_v113.j1 k y0 y1 y2 y3 y4 y5 y6 y7 y8 y9 y10 y11 y12 y13 y14) (impl_choose_v113.j1 (k + 1) y0 y1 y2 y3 y4 y5 y6 y7 y8 y9 y10 y11 y12 y13 y14)) ∧ (∀ y0 y1 y2 y3 y4 y5 y6 y7 y8 y9 y10 y11 y12, LeO (impl_choose_v113.j2 k y0 y1 y2 y3 y4 y5 y6 y7 y8 y9 y10 y11 y12) (impl_choose_v113.j2 (k + 1) y0 y1 y2 y3 y4 y5 y6 y7 y8 y9 y10 y11 y12))
  | 0 => ⟨fun _ _ _ _ _ _ _ _ _ _ r h => by simp [impl_choose_v113.l0] at h, fun _ _ _ _ _ _ _ _ _ _ _ _ _ _ _ r h => by simp [impl_choose_v113.j1] at h, fun _ _ _ _ _ _ _ _ _ _ _ _ _ r h => by simp [impl_choose_v113.j2] at h⟩
  | k + 1 => by
    obtain ⟨ih0, ih1, ih2⟩ := impl_choose_v113.mono_l k
    refine ⟨?_, ?_, ?_⟩
    · intro y0 y1 y2 y3 y4 y5 y6 y7 y8 y9
      unfold impl_choose_v113.l0
      repeat' first
      | (with_reducible exact ih0 _ _ _ _ _ _ _ _ _ _)
      | (with_reducible exact ih1 _ _ _ _ _ _ _ _ _ _ _ _ _ _ _)
      | (with_reducible exact ih2 _ _ _ _ _ _ _ _ _ _ _ _ _)
      | (with_reducible exact LeO.refl _)
      | (with_reducible exact LeO.none _)
      | (with_reducible refine LeO.ite ?_ ?_)
      | (with_reducible refine LeO.bind ?_ (fun _ => ?_))
      | exact ih0 _ _ _ _ _ _ _ _ _ _
      | exact ih1 _ _ _ _ _ _ _ _ _ _ _ _ _ _ _
      | exact ih2 _ _ _ _ _ _ _ _ _ _ _ _ _
      | exact LeO.none _
      | refine LeO.ite ?_ ?_
      | refine LeO.bind ?_ (fun _ => ?_)
    · intro y0 y1 y2 y3 y4 y5 y6 y7 y8 y9 y10 y11 y12 y13 y14
      unfold impl_choose_v113.j1
      repeat' first
      | (with_reducible exact ih0 _ _ _ _ _ _ _ _ _ _)
      | (with_reducible exact ih1 _ _ _ _ _ _ _ _ _ _ _ _ _ _ _)
      | (with_reducible exact ih2 _ _ _ _ _ _ _ _ _ _ _ _ _)
      | (with_reducible exact LeO.refl _)
      | (with_reducible exact LeO.none _)
      | (with_reducible refine LeO.ite ?_ ?_)
      | (with_reducible refine LeO.bind ?_ (fun _ => ?_))
      | exact ih0 _ _ _ _ _ _ _ _ _ _
      | exact ih1 _ _ _ _ _ _ _ _ _ _ _ _ _ _ _
      | exact ih2 _ _ _ _ _ _ _ _ _ _ _ _ _
      | exact LeO.none _
      | refine LeO.ite ?_ ?_
      | refine LeO.bind ?_ (fun _ => ?_)
    · intro y0 y1 y2 y3 y4 y5 y6 y7 y8 y9 y10 y11 y12
      unfold impl_choose_v113.j2
      repeat' first
      | (with_reducible exact ih0 _ _ _ _ _ _ _ _ _ _)
      | (with_reducible exact ih1 _ _ _ _ _ _ _ _ _ _ _ _ _ _ _)
      | (with_reducible exact ih2 _ _ _ _ _ _ _ _ _ _ _ _ _)
      | (with_reducible exact LeO.refl _)
      | (with_reducible exact LeO.none _)
      | (with_reducible refine LeO.ite ?_ ?_)
      | (with_reducible refine LeO.bind ?_ (fun _ => ?_))
      | exact ih0 _ _ _ _ _ _ _ _ _ _
      | exact ih1 _ _ _ _ _ _ _ _ _ _ _ _ _ _ _
      | exact ih2 _ _ _ _ _ _ _ _ _ _ _ _ _
      | exact LeO.none _
      | refine LeO.ite ?_ ?_
      | refine LeO.bind ?_ (fun _ => ?_)
theorem impl_choose_v113.mono : ∀ a0 a1 a2 a3 a4 a5 k, LeO (impl_choose_v113.f k a0 a1 a2 a3 a4 a5) (impl_choose_v113.f (k + 1) a0 a1 a2 a3 a4 a5) := by
  intro a0 a1 a2 a3 a4 a5 k
  obtain ⟨ih0, ih1, ih2⟩ := impl_choose_v113.mono_l k
  unfold impl_choose_v113.f
  repeat' first
      | (with_reducible exact ih0 _ _ _ _ _ _ _ _ _ _)
      | (with_reducible exact ih1 _ _ _ _ _ _ _ _ _ _ _ _ _ _ _)
      | (with_reducible exact ih2 _ _ _ _ _ _ _ _ _ _ _ _ _)
      | (with_reducible exact LeO.refl _)
      | (with_reducible exact LeO.none _)
      | (with_reducible refine LeO.ite ?_ ?_)
      | (with_reducible refine LeO.bind ?_ (fun _ => ?_))
      | exact ih0 _ _ _ _ _ _ _ _ _ _
      | exact ih1 _ _ _ _ _ _ _ _ _ _ _ _ _ _ _
      | exact ih2 _ _ _ _ _ _ _ _ _ _ _ _ _
      | exact LeO.none _
      | refine LeO.ite ?_ ?_
      | refine LeO.bind ?_ (fun _ => ?_)
set_option maxHeartbeats 8000000 in
set_option maxRecDepth 100000 in
theorem impl_choose_v113.calls (k : Nat) (a0_0 : ByteArray) (a1 : Int) (a2 : Int) (a3 : Int) (A4 : Option Addr) (c4 : Nat) (l4 : List (S86)) (a5 : Int) (r1 : List Int) (r2 : Int) (w : World) (hr4 : Kd.C k86 w A4 l4.length l4) (hc4 : l4.length ≤ c4) (h : impl_choose_v113.f k a0_0 a1 a2 a3 l4 a5 = some (r1, r2)) :
    Calls Try.prog 83 #[.agg #[.string a0_0, .func (.func 113) #[] #[]], .int .i64 a1, .int .i64 a2, .int .i64 a3, .slice A4 l4.length c4, .int .i64 a5] w fun e w' => ∃ v0_ : Value, e = .returned (.tuple #[v0_, .int .i64 r2]) ∧ Kd.R (Kd.int .i64) 2 w' w.heap.size (fun _ => True) v0_ r1 ∧ Below w.heap.size w w' := by
  have hu120 := Try.underlying120
  have hu86 := Try.underlying86
  have HR4 := Aside0.mk hr4
  have HC4 := Aside0.mk hc4
  clear hr4 hc4
  have HB := Aside0.mk (Below.refl w.heap.size w)
  have H : (impl_choose_v113.l0 k a1 a2 a3 l4 a5 (l4.length : Int) ([] : List Int) 0 (l4.length : Int) 0) = some (r1, r2) := h
  clear h
  have H' := Aside0.mk H
  clear H
  go_enter Try.func83, Try.ntmps83
  go_wp2_with (first | ((with_reducible refine gate_dst (N := 6) rfl ?_); (try (refine gate_guard (by rfl) ?_; dsimp only)); refine box_event ?hg (N := 6) ?hd (cs := #[.string a0_0, .func (.func 113) #[] #[]]) (t := 120) ?hr ?_; (case hd => rfl); (case hg => rfl); (case hr => first | (go_simp; done) | (go_simp; rfl)); intro gb150 hg w7 hbox hb; have n0_ := Aside0.mk (below_step (by repeat (first | (with_reducible first | exact HB.out | apply below_alloc | apply pw_below_drewN | apply below_drew1) | exact HB.out)) hb); have n1_ := Aside0.mk (hbox); have n2_ := Aside0.mk ((by rw [hg]; exact (below_size (by repeat (first | (with_reducible first | exact HB.out | apply below_alloc | apply pw_below_drewN | apply below_drew1) | exact HB.out))) : w.heap.size ≤ gb150)); have n3_ := Aside0.mk ((by rw [hg]; exact (below_size (by repeat (first | (with_reducible first | exact HB.out | apply below_alloc | apply pw_below_drewN | apply below_drew1) | exact HB.out))) : w.heap.size ≤ gb150)); clear HB; have HB := n0_; have BK150 := n1_; have GW150 := n2_; have GE150 := n3_; clear n0_ n1_ n2_ n3_; clear hb hbox hg))
  go_loopg [15, 16, 23] k (fun kq v15 v16 v23 w' => ∃ (x15_1 : List Int) (x16_1 : Int) (x23_1 : Int), v16 = .int .i64 x16_1 ∧ v23 = .int .i64 x23_1 ∧ Aside0 (impl_choose_v113.l0 kq a1 a2 a3 l4 a5 (l4.length : Int) x15_1 x16_1 (l4.length : Int) x23_1 = some (r1, r2)) ∧ Aside0 (kq ≤ k) ∧ Aside0 (Kd.R (Kd.int .i64) 2 w' w.heap.size (fun _ => True) v15 x15_1) ∧ Aside0 (w'.heap[gb150]? = some (.cells #[.string a0_0, .func (.func 113) #[] #[]] 120 (0, 0))) ∧ Aside0 (Below w.heap.size w w'))
  case atStart => exact ⟨(([] : List Int)), (0), (0), (by first | rfl | (simp; done) | (simp [*]; done)), (by first | rfl | (simp; done) | (simp [*]; done)), H', ⟨Nat.le_refl _⟩, ⟨by first | exact Kd.R_nil _ _ _ _ _ | exact Kd.N_nil _ _ _ _ _ | exact Kd.V_nil _ _ _ _ _ | exact Kd.Q_nil _ _ _ _ _ | exact Kd.S_nil _ _ _ _ _⟩, ⟨by (with_reducible repeat (first | refine blk_drewN ?_ _ | refine blk_drew ?_ | refine blk_alloc ?_ _)); exact BK150.out⟩, ⟨by repeat (first | (with_reducible first | exact HB.out | apply below_alloc | apply pw_below_drewN | apply below_drew1 | refine below_set ?_ GE150.out) | exact HB.out)⟩⟩
  case round =>
    clear H'
    try clear p2
    try clear c4
    obtain ⟨x15_1, x16_1, x23_1, rfl, rfl, HA, HK1, HO_15, BK150, HB⟩ := hrel
    cases gk with
    | zero => exact absurd HA.out (by simp [impl_choose_v113.l0])
    | succ k1 =>
      have H := HA.out
      clear HA
      simp only [impl_choose_v113.l0] at H
      by_cases c8 : x23_1 < (l4.length : Int)
      · rw [if_pos c8] at H
        have c8b0 : decide (x23_1 < (l4.length : Int)) = true := decide_eq_true c8
        clear c8
        by_cases c9 : 0 ≤ x23_1
        · rw [if_pos c9] at H
          have c9b0 : decide (0 ≤ x23_1) = true := decide_eq_true c9
          clear c9
          by_cases c10 : x23_1 < (l4.length : Int)
          · rw [if_pos c10] at H
            have c10b0 : decide (x23_1 < (l4.length : Int)) = true := decide_eq_true c10
            clear c10
            have HC11 := Aside0.mk H
            clear H
            have p152 : 0 ≤ (x23_1 : Int) := of_decide_eq_true (by first | (with_reducible assumption) | assumption)
            have q152 : x23_1 < (l4.length : Int) := of_decide_eq_true (by first | (with_reducible assumption) | assumption)
            obtain ⟨ad152, e152, hx152_0, hx152_1, hx152_2⟩ := at_T86 HR4.out x23_1 p152 q152
            cases e152
            replace hx152_0 := (HB.out.cell (World.block_lt_of_cell? w _ hx152_0)).trans hx152_0
            replace hx152_1 := (HB.out.cell (World.block_lt_of_cell? w _ hx152_1)).trans hx152_1
            replace hx152_2 := (HB.out.cell (World.block_lt_of_cell? w _ hx152_2)).trans hx152_2
            replace p152 := eq_true p152
            replace q152 := eq_true q152
            go_upto_region 8 with (first | ((with_reducible refine gate_dst (N := 18) rfl ?_); (try (refine gate_guard (by rfl) ?_; dsimp only)); refine box_event ?hg (N := 18) ?hd (cs := #[.int .i64 0, .int .i64 0, .int .i64 0]) (t := 86) ?hr ?_; (case hd => rfl); (case hg => rfl); (case hr => first | (go_simp; done) | (go_simp; rfl)); intro gb153 hg w12 hbox hb; have n0_ := Aside0.mk (Kd.R_below (by (with_reducible repeat (first | apply Kd.R_alloc | apply Kd.R_drewN | apply Kd.R_drew)); exact HO_15.out) hb); have n1_ := Aside0.mk (blk_below (g := gb150) (o := .cells #[.string a0_0, .func (.func 113) #[] #[]] 120 (0, 0)) (by (with_reducible repeat (first | refine blk_drewN ?_ _ | refine blk_drew ?_ | refine blk_alloc ?_ _)); exact BK150.out) hb); have n2_ := Aside0.mk (below_step (by repeat (first | (with_reducible first | exact HB.out | apply below_alloc | apply pw_below_drewN | apply below_drew1 | refine below_set ?_ GE150.out) | exact HB.out)) hb); have n3_ := Aside0.mk (hbox); have n4_ := Aside0.mk ((by rw [hg]; exact (below_size (by repeat (first | (with_reducible first | exact HB.out | apply below_alloc | apply pw_below_drewN | apply below_drew1 | refine below_set ?_ GE150.out) | exact HB.out))) : w.heap.size ≤ gb153)); have n5_ := Aside0.mk ((by rw [hg]; exact (below_size (by repeat (first | (with_reducible first | exact HB.out | apply below_alloc | apply pw_below_drewN | apply below_drew1 | refine below_set ?_ GE150.out) | exact HB.out))) : w.heap.size ≤ gb153)); have n6_ := Aside0.mk ((by rw [hg]; exact Nat.ne_of_lt (blk_lt (g := gb150) (o := .cells #[.string a0_0, .func (.func 113) #[] #[]] 120 (0, 0)) (by (with_reducible repeat (first | refine blk_drewN ?_ _ | refine blk_drew ?_ | refine blk_alloc ?_ _)); exact BK150.out)) : gb150 ≠ gb153)); have n7_ := Aside0.mk ((by rw [hg]; exact Nat.ne_of_gt (blk_lt (g := gb150) (o := .cells #[.string a0_0, .func (.func 113) #[] #[]] 120 (0, 0)) (by (with_reducible repeat (first | refine blk_drewN ?_ _ | refine blk_drew ?_ | refine blk_alloc ?_ _)); exact BK150.out)) : gb153 ≠ gb150)); clear HO_15; clear BK150; clear HB; have HO_15 := n0_; have BK150 := n1_; have HB := n2_; have BK153 := n3_; have GW153 := n4_; have GE153 := n5_; have NB150_153 := n6_; have NB153_150 := n7_; clear n0_ n1_ n2_ n3_ n4_ n5_ n6_ n7_; clear hb hbox hg; have hnb13 := NB153_150.out; have hnc13 := NB150_153.out; have hcz14_0 : w12.cell? ⟨gb153, 0, none⟩ = some (.int .i64 0) := (blk_cell BK153.out 0).trans rfl; have hcz14_1 : w12.cell? ⟨gb153, 1, none⟩ = some (.int .i64 0) := (blk_cell BK153.out 1).trans rfl; have hcz14_2 : w12.cell? ⟨gb153, 2, none⟩ = some (.int .i64 0) := (blk_cell BK153.out 2).trans rfl; have hfz14_0 := blk_frozen BK153.out 0; have hfz14_1 := blk_frozen BK153.out 1; have hfz14_2 := blk_frozen BK153.out 2))
            (try simp only [Act.put, List.setIfInBounds_toArray, List.set_cons_zero, List.set_cons_succ])
            go_cut [44] (fun v44 wc => ∃ (kq : Nat) (x44_10 : Bool), v44 = .bool x44_10 ∧ Aside0 (impl_choose_v113.j1 kq a1 a2 a3 l4 a5 (l4.length : Int) x15_1 x16_1 x23_1 (l4.length : Int) x23_1 x44_10 ((rd_T86 l4 x23_1).f0) ((rd_T86 l4 x23_1).f1) ((rd_T86 l4 x23_1).f2) = some (r1, r2)) ∧ Aside0 (kq ≤ k1) ∧ Aside0 (Kd.R (Kd.int .i64) 2 wc w.heap.size (fun _ => True) u15 x15_1) ∧ Aside0 (wc.heap[gb150]? = some (.cells #[.string a0_0, .func (.func 113) #[] #[]] 120 (0, 0))) ∧ Aside0 (wc.heap[gb153]? = some (.cells #[.int .i64 ((rd_T86 l4 x23_1).f0), .int .i64 ((rd_T86 l4 x23_1).f1), .int .i64 ((rd_T86 l4 x23_1).f2)] 86 (0, 0))) ∧ Aside0 (Below w.heap.size w wc))
            case first =>
              have H := HC11.out
              clear HC11
              by_cases c15 : ((rd_T86 l4 x23_1).f0) = 1
              · rw [if_pos c15] at H
                have c15b0 : (((rd_T86 l4 x23_1).f0) == 1) = true := beq_iff_eq.mpr c15
                have c15b1 : (((rd_T86 l4 x23_1).f0) != 1) = false := bne_eq_false_iff_eq.mpr c15
                clear c15
                (first | rw [c15b0] | (simp only [i64_w, i32_w]; rw [c15b0]) | skip)
                by_cases c16 : ((rd_T86 l4 x23_1).f2) = 0
                · rw [if_pos c16] at H
                  have c16b0 : (((rd_T86 l4 x23_1).f2) == 0) = true := beq_iff_eq.mpr c16
                  have c16b1 : (((rd_T86 l4 x23_1).f2) != 0) = false := bne_eq_false_iff_eq.mpr c16
                  clear c16
                  have H' := Aside0.mk H
                  clear H
                  have hnb17 := NB153_150.out
                  have hnc17 := NB150_153.out
                  have hcz18_0 : w12.cell? ⟨gb153, 0, none⟩ = some (.int .i64 0) := (blk_cell BK153.out 0).trans rfl
                  have hcz18_1 : w12.cell? ⟨gb153, 1, none⟩ = some (.int .i64 0) := (blk_cell BK153.out 1).trans rfl
                  have hcz18_2 : w12.cell? ⟨gb153, 2, none⟩ = some (.int .i64 0) := (blk_cell BK153.out 2).trans rfl
                  have hfz18_0 := blk_frozen BK153.out 0
                  have hfz18_1 := blk_frozen BK153.out 1
                  have hfz18_2 := blk_frozen BK153.out 2
                  go_wp2
                  go_meet
                  case rel => exact ⟨_, (true), (by first | rfl | (simp; done) | (simp [*]; done)), H', ⟨by have := HK1.out; first | omega | exact Nat.le_refl _⟩, ⟨by (with_reducible repeat (first | apply Kd.R_alloc | apply Kd.R_drewN | apply Kd.R_drew)); exact Kd.R_mono (Kd.R_far (p := ⟨gb153, 2, none⟩) (Kd.R_far (p := ⟨gb153, 1, none⟩) (Kd.R_far (p := ⟨gb153, 0, none⟩) (Kd.R_types HO_15.out BK153.out (by decide)) (fun _ hk => hk.2) (.int .i64 ((rd_T86 l4 x23_1).f0))) (fun _ hk => hk.2) (.int .i64 ((rd_T86 l4 x23_1).f1))) (fun _ hk => hk.2) (.int .i64 ((rd_T86 l4 x23_1).f2))) (fun _ hk => trivial)⟩, ⟨by (with_reducible repeat (first | refine blk_drewN ?_ _ | refine blk_drew ?_ | refine blk_alloc ?_ _)); refine blk_far ?_ NB150_153.out _; (with_reducible repeat (first | refine blk_drewN ?_ _ | refine blk_drew ?_ | refine blk_alloc ?_ _)); refine blk_far ?_ NB150_153.out _; (with_reducible repeat (first | refine blk_drewN ?_ _ | refine blk_drew ?_ | refine blk_alloc ?_ _)); refine blk_far ?_ NB150_153.out _; (with_reducible repeat (first | refine blk_drewN ?_ _ | refine blk_drew ?_ | refine blk_alloc ?_ _)); exact BK150.out⟩, ⟨by (with_reducible repeat (first | refine blk_drewN ?_ _ | refine blk_drew ?_ | refine blk_alloc ?_ _)); refine blk_put (cs := #[.int .i64 ((rd_T86 l4 x23_1).f0), .int .i64 ((rd_T86 l4 x23_1).f1), .int .i64 0]) ?_ 2 _ rfl; (with_reducible repeat (first | refine blk_drewN ?_ _ | refine blk_drew ?_ | refine blk_alloc ?_ _)); refine blk_put (cs := #[.int .i64 ((rd_T86 l4 x23_1).f0), .int .i64 0, .int .i64 0]) ?_ 1 _ rfl; (with_reducible repeat (first | refine blk_drewN ?_ _ | refine blk_drew ?_ | refine blk_alloc ?_ _)); refine blk_put (cs := #[.int .i64 0, .int .i64 0, .int .i64 0]) ?_ 0 _ rfl; (with_reducible repeat (first | refine blk_drewN ?_ _ | refine blk_drew ?_ | refine blk_alloc ?_ _)); exact BK153.out⟩, ⟨by repeat (first | (with_reducible first | exact HB.out | apply below_alloc | apply pw_below_drewN | apply below_drew1 | refine below_set ?_ GE150.out | refine below_set ?_ GE153.out) | exact HB.out)⟩⟩
                · rw [if_neg c16] at H
                  have c16b0 : (((rd_T86 l4 x23_1).f2) == 0) = false := beq_eq_false_iff_ne.mpr c16
                  have c16b1 : (((rd_T86 l4 x23_1).f2) != 0) = true := bne_iff_ne.mpr c16
                  have c19b0 := eq_true (of_decide_eq_true (by first | (with_reducible assumption) | assumption) : 0 ≤ x23_1)
                  obtain ⟨ji20, hji20⟩ : ∃ j_ : Int, (shr .i64 a5 x23_1) = j_ := ⟨_, rfl⟩
                  replace H : (impl_choose_v113.j1 k1 a1 a2 a3 l4 a5 (l4.length : Int) x15_1 x16_1 x23_1 (l4.length : Int) x23_1 ((Go.bits .and .i64 (ji20) 1) == 1) ((rd_T86 l4 x23_1).f0) ((rd_T86 l4 x23_1).f1) ((rd_T86 l4 x23_1).f2)) = some (r1, r2) := by first | (rw [hji20] at H; exact H) | (simp only [hji20] at H ⊢; exact H)
                  have hji20_ : (a5 / 2 ^ min x23_1.toNat 64) = ji20 := hji20
                  have hji20z : x23_1 ≤ 64 → (a5 / 2 ^ x23_1.toNat) = ji20 := shr_small hji20
                  have H' := Aside0.mk H
                  clear H
                  have hnb21 := NB153_150.out
                  have hnc21 := NB150_153.out
                  have hcz22_0 : w12.cell? ⟨gb153, 0, none⟩ = some (.int .i64 0) := (blk_cell BK153.out 0).trans rfl
                  have hcz22_1 : w12.cell? ⟨gb153, 1, none⟩ = some (.int .i64 0) := (blk_cell BK153.out 1).trans rfl
                  have hcz22_2 : w12.cell? ⟨gb153, 2, none⟩ = some (.int .i64 0) := (blk_cell BK153.out 2).trans rfl
                  have hfz22_0 := blk_frozen BK153.out 0
                  have hfz22_1 := blk_frozen BK153.out 1
                  have hfz22_2 := blk_frozen BK153.out 2
                  go_wp2
                  go_meet
                  case rel => exact ⟨_, (((Go.bits .and .i64 (ji20) 1) == 1)), (by first | rfl | (simp; done) | (simp only [← hji20] <;> (first | rfl | simp)) | (simp [*]; done)), H', ⟨by have := HK1.out; first | omega | exact Nat.le_refl _⟩, ⟨by (with_reducible repeat (first | apply Kd.R_alloc | apply Kd.R_drewN | apply Kd.R_drew)); exact Kd.R_mono (Kd.R_far (p := ⟨gb153, 2, none⟩) (Kd.R_far (p := ⟨gb153, 1, none⟩) (Kd.R_far (p := ⟨gb153, 0, none⟩) (Kd.R_types HO_15.out BK153.out (by decide)) (fun _ hk => hk.2) (.int .i64 ((rd_T86 l4 x23_1).f0))) (fun _ hk => hk.2) (.int .i64 ((rd_T86 l4 x23_1).f1))) (fun _ hk => hk.2) (.int .i64 ((rd_T86 l4 x23_1).f2))) (fun _ hk => trivial)⟩, ⟨by (with_reducible repeat (first | refine blk_drewN ?_ _ | refine blk_drew ?_ | refine blk_alloc ?_ _)); refine blk_far ?_ NB150_153.out _; (with_reducible repeat (first | refine blk_drewN ?_ _ | refine blk_drew ?_ | refine blk_alloc ?_ _)); refine blk_far ?_ NB150_153.out _; (with_reducible repeat (first | refine blk_drewN ?_ _ | refine blk_drew ?_ | refine blk_alloc ?_ _)); refine blk_far ?_ NB150_153.out _; (with_reducible repeat (first | refine blk_drewN ?_ _ | refine blk_drew ?_ | refine blk_alloc ?_ _)); exact BK150.out⟩, ⟨by (with_reducible repeat (first | refine blk_drewN ?_ _ | refine blk_drew ?_ | refine blk_alloc ?_ _)); refine blk_put (cs := #[.int .i64 ((rd_T86 l4 x23_1).f0), .int .i64 ((rd_T86 l4 x23_1).f1), .int .i64 0]) ?_ 2 _ rfl; (with_reducible repeat (first | refine blk_drewN ?_ _ | refine blk_drew ?_ | refine blk_alloc ?_ _)); refine blk_put (cs := #[.int .i64 ((rd_T86 l4 x23_1).f0), .int .i64 0, .int .i64 0]) ?_ 1 _ rfl; (with_reducible repeat (first | refine blk_drewN ?_ _ | refine blk_drew ?_ | refine blk_alloc ?_ _)); refine blk_put (cs := #[.int .i64 0, .int .i64 0, .int .i64 0]) ?_ 0 _ rfl; (with_reducible repeat (first | refine blk_drewN ?_ _ | refine blk_drew ?_ | refine blk_alloc ?_ _)); exact BK153.out⟩, ⟨by repeat (first | (with_reducible first | exact HB.out | apply below_alloc | apply pw_below_drewN | apply below_drew1 | refine below_set ?_ GE150.out | refine below_set ?_ GE153.out) | exact HB.out)⟩⟩
              · rw [if_neg c15] at H
                have c15b0 : (((rd_T86 l4 x23_1).f0) == 1) = false := beq_eq_false_iff_ne.mpr c15
                have c15b1 : (((rd_T86 l4 x23_1).f0) != 1) = true := bne_iff_ne.mpr c15
                (first | rw [c15b0] | (simp only [i64_w, i32_w]; rw [c15b0]) | skip)
                have H' := Aside0.mk H
                clear H
                have hnb23 := NB153_150.out
                have hnc23 := NB150_153.out
                have hcz24_0 : w12.cell? ⟨gb153, 0, none⟩ = some (.int .i64 0) := (blk_cell BK153.out 0).trans rfl
                have hcz24_1 : w12.cell? ⟨gb153, 1, none⟩ = some (.int .i64 0) := (blk_cell BK153.out 1).trans rfl
                have hcz24_2 : w12.cell? ⟨gb153, 2, none⟩ = some (.int .i64 0) := (blk_cell BK153.out 2).trans rfl
                have hfz24_0 := blk_frozen BK153.out 0
                have hfz24_1 := blk_frozen BK153.out 1
                have hfz24_2 := blk_frozen BK153.out 2
                go_wp2
                go_meet
                case rel => exact ⟨_, (true), (by first | rfl | (simp; done) | (simp [*]; done)), H', ⟨by have := HK1.out; first | omega | exact Nat.le_refl _⟩, ⟨by (with_reducible repeat (first | apply Kd.R_alloc | apply Kd.R_drewN | apply Kd.R_drew)); exact Kd.R_mono (Kd.R_far (p := ⟨gb153, 2, none⟩) (Kd.R_far (p := ⟨gb153, 1, none⟩) (Kd.R_far (p := ⟨gb153, 0, none⟩) (Kd.R_types HO_15.out BK153.out (by decide)) (fun _ hk => hk.2) (.int .i64 ((rd_T86 l4 x23_1).f0))) (fun _ hk => hk.2) (.int .i64 ((rd_T86 l4 x23_1).f1))) (fun _ hk => hk.2) (.int .i64 ((rd_T86 l4 x23_1).f2))) (fun _ hk => trivial)⟩, ⟨by (with_reducible repeat (first | refine blk_drewN ?_ _ | refine blk_drew ?_ | refine blk_alloc ?_ _)); refine blk_far ?_ NB150_153.out _; (with_reducible repeat (first | refine blk_drewN ?_ _ | refine blk_drew ?_ | refine blk_alloc ?_ _)); refine blk_far ?_ NB150_153.out _; (with_reducible repeat (first | refine blk_drewN ?_ _ | refine blk_drew ?_ | refine blk_alloc ?_ _)); refine blk_far ?_ NB150_153.out _; (with_reducible repeat (first | refine blk_drewN ?_ _ | refine blk_drew ?_ | refine blk_alloc ?_ _)); exact BK150.out⟩, ⟨by (with_reducible repeat (first | refine blk_drewN ?_ _ | refine blk_drew ?_ | refine blk_alloc ?_ _)); refine blk_put (cs := #[.int .i64 ((rd_T86 l4 x23_1).f0), .int .i64 ((rd_T86 l4 x23_1).f1), .int .i64 0]) ?_ 2 _ rfl; (with_reducible repeat (first | refine blk_drewN ?_ _ | refine blk_drew ?_ | refine blk_alloc ?_ _)); refine blk_put (cs := #[.int .i64 ((rd_T86 l4 x23_1).f0), .int .i64 0, .int .i64 0]) ?_ 1 _ rfl; (with_reducible repeat (first | refine blk_drewN ?_ _ | refine blk_drew ?_ | refine blk_alloc ?_ _)); refine blk_put (cs := #[.int .i64 0, .int .i64 0, .int .i64 0]) ?_ 0 _ rfl; (with_reducible repeat (first | refine blk_drewN ?_ _ | refine blk_drew ?_ | refine blk_alloc ?_ _)); exact BK153.out⟩, ⟨by repeat (first | (with_reducible first | exact HB.out | apply below_alloc | apply pw_below_drewN | apply below_drew1 | refine below_set ?_ GE150.out | refine below_set ?_ GE153.out) | exact HB.out)⟩⟩
            case rest =>
              clear HC11
              try clear c1
              try clear p1
              try clear q1
              try clear hx1
              try clear c2
              try clear p2
              try clear c4
              try clear c8
              try clear c8b0
              try clear c9
              try clear c9b0
              try clear c10
              try clear c10b0
              try clear c13
              try clear c15
              try clear c15b0
              try clear c15b1
              try clear p15
              try clear q15
              try clear hx15
              try clear c16
              try clear c16b0
              try clear c16b1
              try clear c17
              try clear c19
              try clear c19b0
              try clear c21
              try clear c23
              try clear hcz14_0
              try clear hcz14_1
              try clear hcz14_2
              try clear hcz18_0
              try clear hcz18_1
              try clear hcz18_2
              try clear hcz22_0
              try clear hcz22_1
              try clear hcz22_2
              try clear hcz24_0
              try clear hcz24_1
              try clear hcz24_2
              try clear hfz14_0
              try clear hfz14_1
              try clear hfz14_2
              try clear hfz18_0
              try clear hfz18_1
              try clear hfz18_2
              try clear hfz22_0
              try clear hfz22_1
              try clear hfz22_2
              try clear hfz24_0
              try clear hfz24_1
              try clear hfz24_2
              try clear hx152_0
              try clear hx152_1
              try clear hx152_2
              try clear p152
              try clear p2
              try clear q152
              obtain ⟨kq, x44_10, rfl, HA, HJ10, HO_15, BK150, BK153, HB⟩ := hcut
              cases kq with
              | zero => exact absurd HA.out (by simp [impl_choose_v113.j1])
              | succ kj10 =>
                have H := HA.out
                clear HA
                simp only [impl_choose_v113.j1] at H
                by_cases c25 : x44_10 = true
                · subst c25
                  have H1 : (impl_choose_v113.l0 kj10 a1 a2 a3 l4 a5 (l4.length : Int) x15_1 x16_1 (l4.length : Int) (wrap64 (x23_1 + 1))) = some (r1, r2) := by rw [if_pos rfl] at H; exact H
                  clear H
                  have H := H1
                  clear H1
                  have H' := Aside0.mk H
                  clear H
                  go_wp2
                  go_roundg kj10
                  case measure => have := HK1.out; have := HJ10.out; omega
                  case rel => exact ⟨(x15_1), (x16_1), (wrap64 (x23_1 + 1)), (by first | rfl | (simp; done) | (simp [*]; done)), (by first | rfl | (simp; done) | (simp [*]; done)), H', ⟨by have := HK1.out; have := HJ10.out; omega⟩, ⟨by (with_reducible repeat (first | apply Kd.R_alloc | apply Kd.R_drewN | apply Kd.R_drew)); exact HO_15.out⟩, ⟨by (with_reducible repeat (first | refine blk_drewN ?_ _ | refine blk_drew ?_ | refine blk_alloc ?_ _)); exact BK150.out⟩, ⟨by repeat (first | (with_reducible first | exact HB.out | apply below_alloc | apply pw_below_drewN | apply below_drew1 | refine below_set ?_ GE150.out | refine below_set ?_ GE153.out) | exact HB.out)⟩⟩
                · replace c25 := Bool.eq_false_iff.mpr c25
                  subst c25
                  have H1 : ((impl_policyOf_1.f x23_1 ((rd_T86 l4 x23_1).f0) ((rd_T86 l4 x23_1).f1) ((rd_T86 l4 x23_1).f2) (l4.length : Int) a2 a3).bind fun t154 => (if (x15_1.length : Int) = 0 then (impl_choose_v113.j2 kj10 a1 a2 a3 l4 a5 (l4.length : Int) x15_1 x16_1 x23_1 t154 (l4.length : Int) x23_1 true) else (impl_choose_v113.j2 kj10 a1 a2 a3 l4 a5 (l4.length : Int) x15_1 x16_1 x23_1 t154 (l4.length : Int) x23_1 (decide (t154 < x16_1))))) = some (r1, r2) := by rw [if_neg (show ¬ (false = true) by decide)] at H; exact H
                  clear H
                  have H := H1
                  clear H1
                  replace H := Option.bind_eq_some_iff.mp H
                  obtain ⟨t154, A260, H⟩ := H
                  replace H : (if (x15_1.length : Int) = 0 then (impl_choose_v113.j2 kj10 a1 a2 a3 l4 a5 (l4.length : Int) x15_1 x16_1 x23_1 t154 (l4.length : Int) x23_1 true) else (impl_choose_v113.j2 kj10 a1 a2 a3 l4 a5 (l4.length : Int) x15_1 x16_1 x23_1 t154 (l4.length : Int) x23_1 (decide (t154 < x16_1)))) = some (r1, r2) := H
                  have A26 := Aside0.mk A260
                  clear A260
                  have HC27 := Aside0.mk H
                  clear H
                  have hnb28 := NB150_153.out
                  have hnc28 := NB153_150.out
                  have hcz29_0 : wc.cell? ⟨gb150, 0, none⟩ = some (.string a0_0) := (blk_cell BK150.out 0).trans rfl
                  have hcz29_1 : wc.cell? ⟨gb150, 1, none⟩ = some (.func (.func 113) #[] #[]) := (blk_cell BK150.out 1).trans rfl
                  have hfz29_0 := blk_frozen BK150.out 0
                  have hfz29_1 := blk_frozen BK150.out 1
                  have hcz30_0 : wc.cell? ⟨gb153, 0, none⟩ = some (.int .i64 ((rd_T86 l4 x23_1).f0)) := (blk_cell BK153.out 0).trans rfl
                  have hcz30_1 : wc.cell? ⟨gb153, 1, none⟩ = some (.int .i64 ((rd_T86 l4 x23_1).f1)) := (blk_cell BK153.out 1).trans rfl
                  have hcz30_2 : wc.cell? ⟨gb153, 2, none⟩ = some (.int .i64 ((rd_T86 l4 x23_1).f2)) := (blk_cell BK153.out 2).trans rfl
                  have hfz30_0 := blk_frozen BK153.out 0
                  have hfz30_1 := blk_frozen BK153.out 1
                  have hfz30_2 := blk_frozen BK153.out 2
                  go_upto_region 10 with (first | (go_at_call 113; (with_reducible refine (impl_policyOf_1.calls x23_1 ((rd_T86 l4 x23_1).f0) ((rd_T86 l4 x23_1).f1) ((rd_T86 l4 x23_1).f2) (l4.length : Int) a2 a3 t154 _ A26.out).mono ?_); rintro e w31 ⟨rfl, hb⟩; have n0_ := Aside0.mk (Kd.R_below (by (with_reducible repeat (first | apply Kd.R_alloc | apply Kd.R_drewN | apply Kd.R_drew)); exact HO_15.out) hb); have n1_ := Aside0.mk (blk_below (g := gb150) (o := .cells #[.string a0_0, .func (.func 113) #[] #[]] 120 (0, 0)) (by (with_reducible repeat (first | refine blk_drewN ?_ _ | refine blk_drew ?_ | refine blk_alloc ?_ _)); exact BK150.out) hb); have n2_ := Aside0.mk (blk_below (g := gb153) (o := .cells #[.int .i64 ((rd_T86 l4 x23_1).f0), .int .i64 ((rd_T86 l4 x23_1).f1), .int .i64 ((rd_T86 l4 x23_1).f2)] 86 (0, 0)) (by (with_reducible repeat (first | refine blk_drewN ?_ _ | refine blk_drew ?_ | refine blk_alloc ?_ _)); exact BK153.out) hb); have n3_ := Aside0.mk (below_step (by repeat (first | (with_reducible first | exact HB.out | apply below_alloc | apply pw_below_drewN | apply below_drew1 | refine below_set ?_ GE150.out | refine below_set ?_ GE153.out) | exact HB.out)) hb); clear HO_15; clear BK150; clear BK153; clear HB; have HO_15 := n0_; have BK150 := n1_; have BK153 := n2_; have HB := n3_; clear n0_ n1_ n2_ n3_; (try clear hb); (try clear hb2); (try clear hk); (try clear hi)))
                  (try simp only [Act.put, List.setIfInBounds_toArray, List.set_cons_zero, List.set_cons_succ])
                  go_cut [60] (fun v60 wc => ∃ (kq : Nat) (x60_26 : Bool), v60 = .bool x60_26 ∧ Aside0 (impl_choose_v113.j2 kq a1 a2 a3 l4 a5 (l4.length : Int) x15_1 x16_1 x23_1 t154 (l4.length : Int) x23_1 x60_26 = some (r1, r2)) ∧ Aside0 (kq ≤ kj10) ∧ Aside0 (Kd.R (Kd.int .i64) 2 wc w.heap.size (fun _ => True) u15 x15_1) ∧ Aside0 (wc.heap[gb150]? = some (.cells #[.string a0_0, .func (.func 113) #[] #[]] 120 (0, 0))) ∧ Aside0 (wc.heap[gb153]? = some (.cells #[.int .i64 ((rd_T86 l4 x23_1).f0), .int .i64 ((rd_T86 l4 x23_1).f1), .int .i64 ((rd_T86 l4 x23_1).f2)] 86 (0, 0))) ∧ Aside0 (Below w.heap.size w wc))
                  case first =>
                    have H := HC27.out
                    clear HC27
                    by_cases c32 : (x15_1.length : Int) = 0
                    · rw [if_pos c32] at H
                      have c32b0 : ((x15_1.length : Int) == 0) = true := beq_iff_eq.mpr c32
                      have c32b1 : ((x15_1.length : Int) != 0) = false := bne_eq_false_iff_eq.mpr c32
                      clear c32
                      (first | rw [c32b0] | (simp only [i64_w, i32_w]; rw [c32b0]) | skip)
                      have H' := Aside0.mk H
                      clear H
                      obtain ⟨Ao33, co33, eo33⟩ := Kd.R_slice HO_15.out
                      subst eo33
                      go_wp2
                      go_meet
                      case rel => exact ⟨_, (true), (by first | rfl | (simp; done) | (simp [*]; done)), H', ⟨by have := HK1.out; have := HJ10.out; first | omega | exact Nat.le_refl _⟩, ⟨by (with_reducible repeat (first | apply Kd.R_alloc | apply Kd.R_drewN | apply Kd.R_drew)); exact HO_15.out⟩, ⟨by (with_reducible repeat (first | refine blk_drewN ?_ _ | refine blk_drew ?_ | refine blk_alloc ?_ _)); exact BK150.out⟩, ⟨by (with_reducible repeat (first | refine blk_drewN ?_ _ | refine blk_drew ?_ | refine blk_alloc ?_ _)); exact BK153.out⟩, ⟨by repeat (first | (with_reducible first | exact HB.out | apply below_alloc | apply pw_below_drewN | apply below_drew1 | refine below_set ?_ GE150.out | refine below_set ?_ GE153.out) | exact HB.out)⟩⟩
                    · rw [if_neg c32] at H
                      have c32b0 : ((x15_1.length : Int) == 0) = false := beq_eq_false_iff_ne.mpr c32
                      have c32b1 : ((x15_1.length : Int) != 0) = true := bne_iff_ne.mpr c32
                      have c32b2 : ¬ (x15_1 = []) := fun h_ => c32 (by rw [h_]; rfl)
                      (first | rw [c32b0] | (simp only [i64_w, i32_w]; rw [c32b0]) | skip)
                      have H' := Aside0.mk H
                      clear H
                      obtain ⟨Ao34, co34, eo34⟩ := Kd.R_slice HO_15.out
                      subst eo34
                      go_wp2
                      go_meet
                      case rel => exact ⟨_, (decide (t154 < x16_1)), (by first | rfl | (simp; done) | (simp [*]; done)), H', ⟨by have := HK1.out; have := HJ10.out; first | omega | exact Nat.le_refl _⟩, ⟨by (with_reducible repeat (first | apply Kd.R_alloc | apply Kd.R_drewN | apply Kd.R_drew)); exact HO_15.out⟩, ⟨by (with_reducible repeat (first | refine blk_drewN ?_ _ | refine blk_drew ?_ | refine blk_alloc ?_ _)); exact BK150.out⟩, ⟨by (with_reducible repeat (first | refine blk_drewN ?_ _ | refine blk_drew ?_ | refine blk_alloc ?_ _)); exact BK153.out⟩, ⟨by repeat (first | (with_reducible first | exact HB.out | apply below_alloc | apply pw_below_drewN | apply below_drew1 | refine below_set ?_ GE150.out | refine below_set ?_ GE153.out) | exact HB.out)⟩⟩
                  case rest =>
                    clear HC27
                    try clear c1
                    try clear p1
                    try clear q1
                    try clear hx1
                    try clear c2
                    try clear p2
                    try clear c3
                    try clear c4
                    try clear p6
                    try clear c8
                    try clear c8b0
                    try clear c9
                    try clear c9b0
                    try clear c10
                    try clear c10b0
                    try clear c13
                    try clear c15
                    try clear c15b0
                    try clear c15b1
                    try clear p15
                    try clear q15
                    try clear hx15
                    try clear c16
                    try clear c16b0
                    try clear c16b1
                    try clear c17
                    try clear c19
                    try clear c19b0
                    try clear c21
                    try clear c23
                    try clear c25
                    try clear c28
                    try clear c32
                    try clear c32b0
                    try clear c32b1
                    try clear c32b2
                    try clear hcz14_0
                    try clear hcz14_1
                    try clear hcz14_2
                    try clear hcz18_0
                    try clear hcz18_1
                    try clear hcz18_2
                    try clear hcz22_0
                    try clear hcz22_1
                    try clear hcz22_2
                    try clear hcz24_0
                    try clear hcz24_1
                    try clear hcz24_2
                    try clear hcz29_0
                    try clear hcz29_1
                    try clear hcz30_0
                    try clear hcz30_1
                    try clear hcz30_2
                    try clear hfz14_0
                    try clear hfz14_1
                    try clear hfz14_2
                    try clear hfz18_0
                    try clear hfz18_1
                    try clear hfz18_2
                    try clear hfz22_0
                    try clear hfz22_1
                    try clear hfz22_2
                    try clear hfz24_0
                    try clear hfz24_1
                    try clear hfz24_2
                    try clear hfz29_0
                    try clear hfz29_1
                    try clear hfz30_0
                    try clear hfz30_1
                    try clear hfz30_2
                    try clear hx152_0
                    try clear hx152_1
                    try clear hx152_2
                    try clear p1
                    try clear p15
                    try clear p152
                    try clear p2
                    try clear q1
                    try clear q15
                    try clear q152
                    obtain ⟨kq, x60_26, rfl, HA, HJ26, HO_15, BK150, BK153, HB⟩ := hcut
                    cases kq with
                    | zero => exact absurd HA.out (by simp [impl_choose_v113.j2])
                    | succ kj26 =>
                      have H := HA.out
                      clear HA
                      simp only [impl_choose_v113.j2] at H
                      by_cases c35 : x60_26 = true
                      · subst c35
                        have H1 : (impl_choose_v113.l0 kj26 a1 a2 a3 l4 a5 (l4.length : Int) (([x23_1] : List Int)) t154 (l4.length : Int) (wrap64 (x23_1 + 1))) = some (r1, r2) := by rw [if_pos rfl] at H; exact H
                        clear H
                        have H := H1
                        clear H1
                        obtain ⟨y155, hy155⟩ : ∃ y_ : List Int, y_ = (([x23_1] : List Int)) := ⟨_, rfl⟩
                        replace H : (impl_choose_v113.l0 kj26 a1 a2 a3 l4 a5 (l4.length : Int) y155 t154 (l4.length : Int) (wrap64 (x23_1 + 1))) = some (r1, r2) := by first | (rw [hy155]; with_reducible exact H) | (have H2_ := (Option.bind_some _ _).symm.trans H; rw [hy155]; with_reducible exact H2_) | (have H2_ := (Option.bind_some _ _).symm.trans H; with_reducible exact H2_) | with_reducible exact H | (rw [hy155]; exact H) | exact H
                        have Ny155 := Aside0.mk hy155
                        clear hy155
                        have H' := Aside0.mk H
                        clear H
                        go_wp2_with (first | ((with_reducible refine gate_dst (N := 62) rfl ?_); (try (refine gate_guard (by rfl) ?_; dsimp only)); refine Kd.R_lit (Kd.int .i64) _ 2 ?hg (N := 62) ?hd (xs := ([x23_1] : List Int)) (inner := [.int .i64 x23_1]) (ok := fun _ => True) (okp := fun _ => True) ?hr ?hp (fun _ hk => hk) trivial (Below.refl _ _) (Nat.le_refl _) (by simp) ?_; (case hd => rfl); (case hg => rfl); (case hr => first | (go_simp; done) | (go_simp; rfl)); (case hp => exact (Reps.one (show Kd.M (Kd.int .i64) _ _ _ x23_1 [.int .i64 x23_1] from rfl) (Reps.none _ _))); intro v156 w36 ho37 hb hg_ hnew_; clear hg_ hnew_; (first | rw [← Ny155.out] at ho37 | (simp only [Int.reduceToNat] at ho37; rw [← Ny155.out] at ho37)); have n0_ := Aside0.mk (Kd.R_elder' (by (with_reducible repeat (first | apply Kd.R_alloc | apply Kd.R_drewN | apply Kd.R_drew)); exact HO_15.out) (Kd.R_base ho37) hb); have n1_ := Aside0.mk (Kd.R_lower (Kd.R_new' ho37 (Kd.R_lt (by (with_reducible repeat (first | apply Kd.R_alloc | apply Kd.R_drewN | apply Kd.R_drew)); exact HO_15.out))) (below_size (by repeat (first | (with_reducible first | exact HB.out | apply below_alloc | apply pw_below_drewN | apply below_drew1 | refine below_set ?_ GE150.out | refine below_set ?_ GE153.out) | exact HB.out)))); have n2_ := Aside0.mk (blk_below (g := gb150) (o := .cells #[.string a0_0, .func (.func 113) #[] #[]] 120 (0, 0)) (by (with_reducible repeat (first | refine blk_drewN ?_ _ | refine blk_drew ?_ | refine blk_alloc ?_ _)); exact BK150.out) hb); have n3_ := Aside0.mk (blk_below (g := gb153) (o := .cells #[.int .i64 ((rd_T86 l4 x23_1).f0), .int .i64 ((rd_T86 l4 x23_1).f1), .int .i64 ((rd_T86 l4 x23_1).f2)] 86 (0, 0)) (by (with_reducible repeat (first | refine blk_drewN ?_ _ | refine blk_drew ?_ | refine blk_alloc ?_ _)); exact BK153.out) hb); have n4_ := Aside0.mk (below_step (by repeat (first | (with_reducible first | exact HB.out | apply below_alloc | apply pw_below_drewN | apply below_drew1 | refine below_set ?_ GE150.out | refine below_set ?_ GE153.out) | exact HB.out)) hb); clear HO_15; clear BK150; clear BK153; clear HB; have HO_15 := n0_; have HO157 := n1_; have BK150 := n2_; have BK153 := n3_; have HB := n4_; clear n0_ n1_ n2_ n3_ n4_; clear hb ho37))
                        go_roundg kj26
                        case measure => have := HK1.out; have := HJ10.out; have := HJ26.out; omega
                        case rel => exact ⟨(y155), (t154), (wrap64 (x23_1 + 1)), (by first | rfl | (simp; done) | (simp [*]; done)), (by first | rfl | (simp; done) | (simp [*]; done)), H', ⟨by have := HK1.out; have := HJ10.out; have := HJ26.out; omega⟩, ⟨by (with_reducible repeat (first | apply Kd.R_alloc | apply Kd.R_drewN | apply Kd.R_drew)); exact Kd.R_mono HO157.out (fun _ hk => trivial)⟩, ⟨by (with_reducible repeat (first | refine blk_drewN ?_ _ | refine blk_drew ?_ | refine blk_alloc ?_ _)); exact BK150.out⟩, ⟨by repeat (first | (with_reducible first | exact HB.out | apply below_alloc | apply pw_below_drewN | apply below_drew1 | refine below_set ?_ GE150.out | refine below_set ?_ GE153.out) | exact HB.out)⟩⟩
                      · replace c35 := Bool.eq_false_iff.mpr c35
                        subst c35
                        have H1 : (if t154 = x16_1 then (if x15_1.length < 17592186044416 then (impl_choose_v113.l0 kj26 a1 a2 a3 l4 a5 (l4.length : Int) (x15_1 ++ [x23_1]) x16_1 (l4.length : Int) (wrap64 (x23_1 + 1))) else (none)) else (impl_choose_v113.l0 kj26 a1 a2 a3 l4 a5 (l4.length : Int) x15_1 x16_1 (l4.length : Int) (wrap64 (x23_1 + 1)))) = some (r1, r2) := by rw [if_neg (show ¬ (false = true) by decide)] at H; exact H
                        clear H
                        have H := H1
                        clear H1
                        by_cases c38 : t154 = x16_1
                        · rw [if_pos c38] at H
                          have c38b0 : (t154 == x16_1) = true := beq_iff_eq.mpr c38
                          have c38b1 : (t154 != x16_1) = false := bne_eq_false_iff_eq.mpr c38
                          clear c38
                          by_cases c39 : x15_1.length < 17592186044416
                          · rw [if_pos c39] at H
                            have LMc39 := Aside0.mk c39
                            clear c39
                            obtain ⟨y158, hy158⟩ : ∃ y_ : List Int, y_ = (x15_1 ++ [x23_1]) := ⟨_, rfl⟩
                            replace H : (impl_choose_v113.l0 kj26 a1 a2 a3 l4 a5 (l4.length : Int) y158 x16_1 (l4.length : Int) (wrap64 (x23_1 + 1))) = some (r1, r2) := by first | (rw [hy158]; with_reducible exact H) | (have H2_ := (Option.bind_some _ _).symm.trans H; rw [hy158]; with_reducible exact H2_) | (have H2_ := (Option.bind_some _ _).symm.trans H; with_reducible exact H2_) | with_reducible exact H | (rw [hy158]; exact H) | exact H
                            have Ny158 := Aside0.mk hy158
                            clear hy158
                            have H' := Aside0.mk H
                            clear H
                            go_wp2_with (first | ((with_reducible refine gate_builtin (b := .append) (xs := #[.tmp 67, .tmp 69]) rfl ?_); (try (refine gate_guard (by rfl) ?_; dsimp only)); at_builtin; refine Kd.R_append (Kd.int .i64) (w0 := w) w.heap.size rfl (.tmp 67) (.tmp 69) 57 2 (.int .i64 0) 8 rfl Try.underlying57 info2 rfl (by decide) (by omega) u15 x15_1 x23_1 [.int .i64 x23_1] (fun _ => True) (fun _ => False) rfl rfl ?aP (fun _ hk => hk.elim) ?aF ?aO ?aB ?aS ?aL ?_; (case aP => exact rfl); (case aB => exact (by repeat (first | (with_reducible first | exact HB.out | apply below_alloc | apply pw_below_drewN | apply below_drew1 | refine below_set ?_ GE150.out | refine below_set ?_ GE153.out) | exact HB.out))); (case aF => exact (fun _ _ => trivial)); (case aO => exact (by (with_reducible repeat (first | apply Kd.R_alloc | apply Kd.R_drewN | apply Kd.R_drew)); exact HO_15.out)); (case aS => exact (below_size (by repeat (first | (with_reducible first | exact HB.out | apply below_alloc | apply pw_below_drewN | apply below_drew1 | refine below_set ?_ GE150.out | refine below_set ?_ GE153.out) | exact HB.out)))); (case aL => have := LMc39.out; omega); intro v159 w40 ho hb hg hat; rw [← Ny158.out] at ho; have n0_ := Aside0.mk (blk_grown (g := gb150) (o := .cells #[.string a0_0, .func (.func 113) #[] #[]] 120 (0, 0)) (by (with_reducible repeat (first | refine blk_drewN ?_ _ | refine blk_drew ?_ | refine blk_alloc ?_ _)); exact BK150.out) hg (Kd.R_ne HO_15.out BK150.out (by decide))); have n1_ := Aside0.mk (blk_grown (g := gb153) (o := .cells #[.int .i64 ((rd_T86 l4 x23_1).f0), .int .i64 ((rd_T86 l4 x23_1).f1), .int .i64 ((rd_T86 l4 x23_1).f2)] 86 (0, 0)) (by (with_reducible repeat (first | refine blk_drewN ?_ _ | refine blk_drew ?_ | refine blk_alloc ?_ _)); exact BK153.out) hg (Kd.R_ne HO_15.out BK153.out (by decide))); have n2_ := Aside0.mk (hb); have n3_ := Aside0.mk (ho); clear BK150; clear BK153; clear HB; clear HO_15; have BK150 := n0_; have BK153 := n1_; have HB := n2_; have HO160 := n3_; clear n0_ n1_ n2_ n3_; clear ho hb hg hat))
                            go_roundg kj26
                            case measure => have := HK1.out; have := HJ10.out; have := HJ26.out; omega
                            case rel => exact ⟨(y158), (x16_1), (wrap64 (x23_1 + 1)), (by first | rfl | (simp; done) | (simp [*]; done)), (by first | rfl | (simp; done) | (simp [*]; done)), H', ⟨by have := HK1.out; have := HJ10.out; have := HJ26.out; omega⟩, ⟨by (with_reducible repeat (first | apply Kd.R_alloc | apply Kd.R_drewN | apply Kd.R_drew)); exact HO160.out⟩, ⟨by (with_reducible repeat (first | refine blk_drewN ?_ _ | refine blk_drew ?_ | refine blk_alloc ?_ _)); exact BK150.out⟩, ⟨by repeat (first | (with_reducible first | exact HB.out | apply below_alloc | apply pw_below_drewN | apply below_drew1 | refine below_set ?_ GE150.out | refine below_set ?_ GE153.out) | exact HB.out)⟩⟩
                          · rw [if_neg c39] at H
                            exact absurd H (by simp)
                        · rw [if_neg c38] at H
                          have c38b0 : (t154 == x16_1) = false := beq_eq_false_iff_ne.mpr c38
                          have c38b1 : (t154 != x16_1) = true := bne_iff_ne.mpr c38
                          have H' := Aside0.mk H
                          clear H
                          go_wp2
                          go_roundg kj26
                          case measure => have := HK1.out; have := HJ10.out; have := HJ26.out; omega
                          case rel => exact ⟨(x15_1), (x16_1), (wrap64 (x23_1 + 1)), (by first | rfl | (simp; done) | (simp [*]; done)), (by first | rfl | (simp; done) | (simp [*]; done)), H', ⟨by have := HK1.out; have := HJ10.out; have := HJ26.out; omega⟩, ⟨by (with_reducible repeat (first | apply Kd.R_alloc | apply Kd.R_drewN | apply Kd.R_drew)); exact HO_15.out⟩, ⟨by (with_reducible repeat (first | refine blk_drewN ?_ _ | refine blk_drew ?_ | refine blk_alloc ?_ _)); exact BK150.out⟩, ⟨by repeat (first | (with_reducible first | exact HB.out | apply below_alloc | apply pw_below_drewN | apply below_drew1 | refine below_set ?_ GE150.out | refine below_set ?_ GE153.out) | exact HB.out)⟩⟩
          · rw [if_neg c10] at H
            exact absurd H (by simp)
        · rw [if_neg c9] at H
          exact absurd H (by simp)
      · rw [if_neg c8] at H
        have c8b0 : decide (x23_1 < (l4.length : Int)) = false := decide_eq_false c8
        clear c8
        by_cases c41 : a1 = 1
        · rw [if_pos c41] at H
          have c41b0 : (a1 == 1) = true := beq_iff_eq.mpr c41
          have c41b1 : (a1 != 1) = false := bne_eq_false_iff_eq.mpr c41
          clear c41
          by_cases c42 : (x15_1.length : Int) > 0
          · rw [if_pos c42] at H
            have c42b0 : decide (0 < (x15_1.length : Int)) = true := decide_eq_true c42
            have c42b1 : decide (0 < x15_1.length) = true := decide_eq_true (by omega)
            clear c42
            by_cases c43 : 0 < (x15_1.length : Int)
            · rw [if_pos c43] at H
              have c43b0 : decide (0 < (x15_1.length : Int)) = true := decide_eq_true c43
              have c43b1 : decide (0 < x15_1.length) = true := decide_eq_true (by omega)
              clear c43
              by_cases c44 : (l4.length : Int) = 0
              · rw [if_pos c44] at H
                exact absurd H (by simp)
              · rw [if_neg c44] at H
                have c44b0 : ((l4.length : Int) == 0) = false := beq_eq_false_iff_ne.mpr c44
                have c44b1 : ((l4.length : Int) != 0) = true := bne_iff_ne.mpr c44
                have c44b2 : ¬ (l4 = []) := fun h_ => c44 (by rw [h_]; rfl)
                simp only [Option.some.injEq, Prod.mk.injEq] at H
                obtain ⟨rfl, rfl⟩ := H
                obtain ⟨Ao45, co45, eo45⟩ := Kd.R_slice HO_15.out
                subst eo45
                have p151 : 0 ≤ (0 : Int) := (by omega)
                have q151 : 0 < (x15_1.length : Int) := of_decide_eq_true (by first | (with_reducible assumption) | assumption)
                obtain ⟨ad151, e151, hx151_0⟩ := Kd.at_int (Kd.R_reads' HO_15.out).2.2 0 p151 q151
                cases e151
                have qi151 : (0 < x15_1.length) = True := eq_true (by omega)
                (try rw [show ((0 : Int)).toNat = 0 from rfl] at hx151_0)
                (try rw [Addr.add_zero'] at hx151_0)
                replace p151 := eq_true p151
                replace q151 := eq_true q151
                go_wp2
                go_ret2
                exact ⟨_, by first | rfl | (simp [errW_none, errW_some] <;> rfl) | (simp [*, errW_none, errW_some] <;> rfl), by (with_reducible repeat (first | apply Kd.R_alloc | apply Kd.R_drewN | apply Kd.R_drew)); exact HO_15.out, by repeat (first | (with_reducible first | exact HB.out | apply below_alloc | apply pw_below_drewN | apply below_drew1 | refine below_set ?_ GE150.out) | exact HB.out)⟩
            · rw [if_neg c43] at H
              exact absurd H (by simp)
          · rw [if_neg c42] at H
            have c42b0 : decide (0 < (x15_1.length : Int)) = false := decide_eq_false c42
            have c42b1 : decide (0 < x15_1.length) = false := decide_eq_false (by omega)
            clear c42
            simp only [Option.some.injEq, Prod.mk.injEq] at H
            obtain ⟨rfl, rfl⟩ := H
            obtain ⟨Ao46, co46, eo46⟩ := Kd.R_slice HO_15.out
            subst eo46
            go_wp2
            go_ret2
            exact ⟨_, by first | rfl | (simp [errW_none, errW_some] <;> rfl) | (simp [*, errW_none, errW_some] <;> rfl), by (with_reducible repeat (first | apply Kd.R_alloc | apply Kd.R_drewN | apply Kd.R_drew)); exact HO_15.out, by repeat (first | (with_reducible first | exact HB.out | apply below_alloc | apply pw_below_drewN | apply below_drew1 | refine below_set ?_ GE150.out) | exact HB.out)⟩
        · rw [if_neg c41] at H
          have c41b0 : (a1 == 1) = false := beq_eq_false_iff_ne.mpr c41
          have c41b1 : (a1 != 1) = true := bne_iff_ne.mpr c41
          simp only [Option.some.injEq, Prod.mk.injEq] at H
          obtain ⟨rfl, rfl⟩ := H
          go_wp2
          go_ret2
          exact ⟨_, by first | rfl | (simp [errW_none, errW_some] <;> rfl) | (simp [*, errW_none, errW_some] <;> rfl), by (with_reducible repeat (first | apply Kd.R_alloc | apply Kd.R_drewN | apply Kd.R_drew)); exact HO_15.out, by repeat (first | (with_reducible first | exact HB.out | apply below_alloc | apply pw_below_drewN | apply below_drew1 | refine below_set ?_ GE150.out) | exact HB.out)⟩

end Go.Proofs.Ytakeenidhkhmiaa.PFnExactPick
