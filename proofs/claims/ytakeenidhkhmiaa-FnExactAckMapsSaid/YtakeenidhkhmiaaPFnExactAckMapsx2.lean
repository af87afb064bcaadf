-- by a program of this session (wip/pr)
import Derived.Test.YtakeenidhkhmiaaPFnExactAckMapsx0
namespace Go.Proofs.Ytakeenidhkhmiaa.PFnExactAckMaps
open Go.RowKit Go.Proofs.YtakeenidhkhmiaaW.PrintWords Go.Proofs.YtakeenidhkhmiaaW.PrintLast Go.Proofs.YtakeenidhkhmiaaW.PrintMore
attribute [local go_sem] max2_int min2_int max_two min_two max_three min_three max_four min_four   -- for this text's walks alone
set_option linter.unusedVariables false
set_option linter.unusedSimpArgs false

/-! ### spec_l6MapsOK: function 72 -/
mutual
def spec_l6MapsOK.l0 : Nat → List (S84) → Int → Option (Bool)
  | 0, _, _ => none
  | k + 1, x0, x3 => if x3 < (x0.length : Int) then (if 0 ≤ x3 then (if ((rd_T84 x0 x3).f0) > 4611686018427387904 then (spec_l6MapsOK.j1 k x0 x3 true ((rd_T84 x0 x3).f0) ((rd_T84 x0 x3).f1) ((rd_T84 x0 x3).f2) ((rd_T84 x0 x3).f3) ((rd_T84 x0 x3).f4)) else (if ((rd_T84 x0 x3).f3) < 1 then (spec_l6MapsOK.j1 k x0 x3 true ((rd_T84 x0 x3).f0) ((rd_T84 x0 x3).f1) ((rd_T84 x0 x3).f2) ((rd_T84 x0 x3).f3) ((rd_T84 x0 x3).f4)) else (if ((rd_T84 x0 x3).f3) > 255 then (spec_l6MapsOK.j1 k x0 x3 true ((rd_T84 x0 x3).f0) ((rd_T84 x0 x3).f1) ((rd_T84 x0 x3).f2) ((rd_T84 x0 x3).f3) ((rd_T84 x0 x3).f4)) else (if ((rd_T84 x0 x3).f4) = 0 then (spec_l6MapsOK.j1 k x0 x3 false ((rd_T84 x0 x3).f0) ((rd_T84 x0 x3).f1) ((rd_T84 x0 x3).f2) ((rd_T84 x0 x3).f3) ((rd_T84 x0 x3).f4)) else (spec_l6MapsOK.j1 k x0 x3 (((rd_T84 x0 x3).f4) != 1) ((rd_T84 x0 x3).f0) ((rd_T84 x0 x3).f1) ((rd_T84 x0 x3).f2) ((rd_T84 x0 x3).f3) ((rd_T84 x0 x3).f4)))))) else (none)) else (some true)
def spec_l6MapsOK.j1 : Nat → List (S84) → Int → Bool → Int → Int → Int → Int → Int → Option (Bool)
  | 0, _, _, _, _, _, _, _, _ => none
  | k + 1, x0, x3, x42, x103000, x103001, x103002, x103003, x103004 => if x42 = true then (some false) else (if x103002 = 0 then (if x103001 ≥ 1 then (if x103002 = 1 then (if x103001 = 0 then (if x103001 ≤ 32 then (if x3 > 0 then (if 0 ≤ (wrap64 (x3 - 1)) then (if (wrap64 (x3 - 1)) < (x0.length : Int) then (if x103000 < (IntKind.u64.wrap (((rd_T84 x0 (wrap64 (x3 - 1))).f0) + (IntKind.u64.wrap ((rd_T84 x0 (wrap64 (x3 - 1))).f1)))) then (some false) else (spec_l6MapsOK.l0 k x0 (wrap64 (x3 + 1)))) else (none)) else (none)) else (spec_l6MapsOK.l0 k x0 (wrap64 (x3 + 1)))) else (if (x3 = (wrap64 ((x0.length : Int) - 1))) then (if x3 > 0 then (if 0 ≤ (wrap64 (x3 - 1)) then (if (wrap64 (x3 - 1)) < (x0.length : Int) then (if x103000 < (IntKind.u64.wrap (((rd_T84 x0 (wrap64 (x3 - 1))).f0) + (IntKind.u64.wrap ((rd_T84 x0 (wrap64 (x3 - 1))).f1)))) then (some false) else (spec_l6MapsOK.l0 k x0 (wrap64 (x3 + 1)))) else (none)) else (none)) else (spec_l6MapsOK.l0 k x0 (wrap64 (x3 + 1)))) else (some false))) else (if x103001 ≤ 32 then (if x3 > 0 then (if 0 ≤ (wrap64 (x3 - 1)) then (if (wrap64 (x3 - 1)) < (x0.length : Int) then (if x103000 < (IntKind.u64.wrap (((rd_T84 x0 (wrap64 (x3 - 1))).f0) + (IntKind.u64.wrap ((rd_T84 x0 (wrap64 (x3 - 1))).f1)))) then (some false) else (spec_l6MapsOK.l0 k x0 (wrap64 (x3 + 1)))) else (none)) else (none)) else (spec_l6MapsOK.l0 k x0 (wrap64 (x3 + 1)))) else (some false))) else (if x103001 ≤ 32 then (if x3 > 0 then (if 0 ≤ (wrap64 (x3 - 1)) then (if (wrap64 (x3 - 1)) < (x0.length : Int) then (if x103000 < (IntKind.u64.wrap (((rd_T84 x0 (wrap64 (x3 - 1))).f0) + (IntKind.u64.wrap ((rd_T84 x0 (wrap64 (x3 - 1))).f1)))) then (some false) else (spec_l6MapsOK.l0 k x0 (wrap64 (x3 + 1)))) else (none)) else (none)) else (spec_l6MapsOK.l0 k x0 (wrap64 (x3 + 1)))) else (some false))) else (if x103002 = 1 then (if x103001 = 0 then (if (x3 = (wrap64 ((x0.length : Int) - 1))) then (if x3 > 0 then (if 0 ≤ (wrap64 (x3 - 1)) then (if (wrap64 (x3 - 1)) < (x0.length : Int) then (if x103000 < (IntKind.u64.wrap (((rd_T84 x0 (wrap64 (x3 - 1))).f0) + (IntKind.u64.wrap ((rd_T84 x0 (wrap64 (x3 - 1))).f1)))) then (some false) else (spec_l6MapsOK.l0 k x0 (wrap64 (x3 + 1)))) else (none)) else (none)) else (spec_l6MapsOK.l0 k x0 (wrap64 (x3 + 1)))) else (some false)) else (some false)) else (some false))) else (if x103002 = 1 then (if x103001 = 0 then (if (x3 = (wrap64 ((x0.length : Int) - 1))) then (if x3 > 0 then (if 0 ≤ (wrap64 (x3 - 1)) then (if (wrap64 (x3 - 1)) < (x0.length : Int) then (if x103000 < (IntKind.u64.wrap (((rd_T84 x0 (wrap64 (x3 - 1))).f0) + (IntKind.u64.wrap ((rd_T84 x0 (wrap64 (x3 - 1))).f1)))) then (some false) else (spec_l6MapsOK.l0 k x0 (wrap64 (x3 + 1)))) else (none)) else (none)) else (spec_l6MapsOK.l0 k x0 (wrap64 (x3 + 1)))) else (some false)) else (some false)) else (some false)))
end
def spec_l6MapsOK.f (k : Nat) (l0 : List (S84)) : Option (Bool) := if (l0.length : Int) > 256 then (some false) else (spec_l6MapsOK.l0 k l0 0)
theorem spec_l6MapsOK.mono_l : ∀ k, (∀ y0 y1, LeO (spec_l6MapsOK.l0 k y0 y1) (spec_l6MapsOK.l0 (k + 1) y0 y1)) ∧ (∀ y0 y1 y2 y3 y4 y5 y6 y7, LeO (spec_l6MapsOK.j1 k y0 y1 y2 y3 y4 y5 y6 y7) (spec_l6MapsOK.j1 (k + 1) y0 y1 y2 y3 y4 y5 y6 y7))
  | 0 => ⟨fun _ _ r h => by simp [spec_l6MapsOK.l0] at h, fun _ _ _ _ _ _ _ _ r h => by simp [spec_l6MapsOK.j1] at h⟩
  | k + 1 => by
    obtain ⟨ih0, ih1⟩ := spec_l6MapsOK.mono_l k
    refine ⟨?_, ?_⟩
    · intro y0 y1
      unfold spec_l6MapsOK.l0
      repeat' first
      | (with_reducible exact ih0 _ _)
      | (with_reducible exact ih1 _ _ _ _ _ _ _ _)
      | (with_reducible exact LeO.refl _)
      | (with_reducible exact LeO.none _)
      | (with_reducible refine LeO.ite ?_ ?_)
      | (with_reducible refine LeO.bind ?_ (fun _ => ?_))
      | exact ih0 _ _
      | exact ih1 _ _ _ _ _ _ _ _
      | exact LeO.none _
      | refine LeO.ite ?_ ?_
      | refine LeO.bind ?_ (fun _ => ?_)
    · intro y0 y1 y2 y3 y4 y5 y6 y7
      unfold spec_l6MapsOK.j1
      repeat' first
      | (with_reducible exact ih0 _ _)
      | (with_reducible exact ih1 _ _ _ _ _ _ _ _)
      | (with_reducible exact LeO.refl _)
      | (with_reducible exact LeO.none _)
      | (with_reducible refine LeO.ite ?_ ?_)
      | (with_reducible refine LeO.bind ?_ (fun _ => ?_))
      | exact ih0 _ _
      | exact ih1 _ _ _ _ _ _ _ _
      | exact LeO.none _
      | refine LeO.ite ?_ ?_
      | refine LeO.bind ?_ (fun _ => ?_)
theorem spec_l6MapsOK.mono : ∀ a0 k, LeO (spec_l6MapsOK.f k a0) (spec_l6MapsOK.f (k + 1) a0) := by
  intro a0 k
  obtain ⟨ih0, ih1⟩ := spec_l6MapsOK.mono_l k
  unfold spec_l6MapsOK.f
  repeat' first
      | (with_reducible exact ih0 _ _)
      | (with_reducible exact ih1 _ _ _ _ _ _ _ _)
      | (with_reducible exact LeO.refl _)
      | (with_reducible exact LeO.none _)
      | (with_reducible refine LeO.ite ?_ ?_)
      | (with_reducible refine LeO.bind ?_ (fun _ => ?_))
      | exact ih0 _ _
      | exact ih1 _ _ _ _ _ _ _ _
      | exact LeO.none _
      | refine LeO.ite ?_ ?_
      | refine LeO.bind ?_ (fun _ => ?_)
set_option maxHeartbeats 8000000 in
set_option maxRecDepth 100000 in
theorem spec_l6MapsOK.calls (k : Nat) (A0 : Option Addr) (c0 : Nat) (l0 : List (S84)) (r : Bool) (w : World) (hr0 : Kd.C k84 w A0 l0.length l0) (hc0 : l0.length ≤ c0) (h : spec_l6MapsOK.f k l0 = some r) :
    Calls Try.prog 72 #[.slice A0 l0.length c0] w fun e w' => e = .returned (.bool r) ∧ Below w.heap.size w w' := by
  have hu84 := Try.underlying84
  have HR0 := Aside0.mk hr0
  have HC0 := Aside0.mk hc0
  clear hr0 hc0
  have HB := Aside0.mk (Below.refl w.heap.size w)
  have H : (if (l0.length : Int) > 256 then (some false) else (spec_l6MapsOK.l0 k l0 0)) = some r := h
  clear h
  by_cases c2 : (l0.length : Int) > 256
  · rw [if_pos c2] at H
    have c2b0 : decide (256 < (l0.length : Int)) = true := decide_eq_true c2
    have c2b1 : decide (256 < l0.length) = true := decide_eq_true (by omega)
    clear c2
    obtain rfl := Option.some.inj H
    go_enter Try.func72, Try.ntmps72
    go_wp2
    repeat (go_quiet (fail); try go_wp2)
    go_ret
    exact ⟨by first | rfl | (simp [errW_none, errW_some] <;> rfl) | (simp [*, errW_none, errW_some] <;> rfl), by repeat (first | (with_reducible first | exact HB.out | apply below_alloc | apply pw_below_drewN | apply below_drew1) | exact HB.out)⟩
  · rw [if_neg c2] at H
    have c2b0 : decide (256 < (l0.length : Int)) = false := decide_eq_false c2
    have c2b1 : decide (256 < l0.length) = false := decide_eq_false (by omega)
    clear c2
    have H' := Aside0.mk H
    clear H
    go_enter Try.func72, Try.ntmps72
    go_wp2
    repeat (go_quiet (fail); try go_wp2)
    go_loopg [3] k (fun kq v3 w' => ∃ (x3_1 : Int), v3 = .int .i64 x3_1 ∧ Aside0 (spec_l6MapsOK.l0 kq l0 x3_1 = some r) ∧ Aside0 (kq ≤ k) ∧ Aside0 (Below w.heap.size w w'))
    case atStart => exact ⟨(0), (by first | rfl | (simp; done) | (simp [*]; done)), H', ⟨Nat.le_refl _⟩, ⟨by repeat (first | (with_reducible first | exact HB.out | apply below_alloc | apply pw_below_drewN | apply below_drew1) | exact HB.out)⟩⟩
    case round =>
      clear H'
      try clear c2
      try clear c2b0
      try clear c2b1
      try clear p2
      obtain ⟨x3_1, rfl, HA, HK1, HB⟩ := hrel
      cases gk with
      | zero => exact absurd HA.out (by simp [spec_l6MapsOK.l0])
      | succ k1 =>
        have H := HA.out
        clear HA
        simp only [spec_l6MapsOK.l0] at H
        by_cases c3 : x3_1 < (l0.length : Int)
        · rw [if_pos c3] at H
          have c3b0 : decide (x3_1 < (l0.length : Int)) = true := decide_eq_true c3
          clear c3
          by_cases c4 : 0 ≤ x3_1
          · rw [if_pos c4] at H
            have c4b0 : decide (0 ≤ x3_1) = true := decide_eq_true c4
            clear c4
            have HC5 := Aside0.mk H
            clear H
            have p101 : 0 ≤ (x3_1 : Int) := of_decide_eq_true (by first | (with_reducible assumption) | assumption)
            have q101 : x3_1 < (l0.length : Int) := of_decide_eq_true (by first | (with_reducible assumption) | assumption)
            obtain ⟨ad101, e101, hx101_0, hx101_1, hx101_2, hx101_3, hx101_4⟩ := at_T84 HR0.out x3_1 p101 q101
            cases e101
            replace hx101_0 := (HB.out.cell (World.block_lt_of_cell? w _ hx101_0)).trans hx101_0
            replace hx101_1 := (HB.out.cell (World.block_lt_of_cell? w _ hx101_1)).trans hx101_1
            replace hx101_2 := (HB.out.cell (World.block_lt_of_cell? w _ hx101_2)).trans hx101_2
            replace hx101_3 := (HB.out.cell (World.block_lt_of_cell? w _ hx101_3)).trans hx101_3
            replace hx101_4 := (HB.out.cell (World.block_lt_of_cell? w _ hx101_4)).trans hx101_4
            replace p101 := eq_true p101
            replace q101 := eq_true q101
            go_upto_region 7 with (first | ((with_reducible refine gate_dst (N := 4) rfl ?_); (try (refine gate_guard (by rfl) ?_; dsimp only)); refine box_event ?hg (N := 4) ?hd (cs := #[.int .u64 0, .int .i64 0, .int .i64 0, .int .i64 0, .int .i64 0]) (t := 84) ?hr ?_; (case hd => rfl); (case hg => rfl); (case hr => first | (go_simp; done) | (go_simp; rfl)); intro gb102 hg w6 hbox hb; have n0_ := Aside0.mk (below_step (by repeat (first | (with_reducible first | exact HB.out | apply below_alloc | apply pw_below_drewN | apply below_drew1) | exact HB.out)) hb); have n1_ := Aside0.mk (hbox); have n2_ := Aside0.mk ((by rw [hg]; exact (below_size (by repeat (first | (with_reducible first | exact HB.out | apply below_alloc | apply pw_below_drewN | apply below_drew1) | exact HB.out))) : w.heap.size ≤ gb102)); have n3_ := Aside0.mk ((by rw [hg]; exact (below_size (by repeat (first | (with_reducible first | exact HB.out | apply below_alloc | apply pw_below_drewN | apply below_drew1) | exact HB.out))) : w.heap.size ≤ gb102)); clear HB; have HB := n0_; have BK102 := n1_; have GW102 := n2_; have GE102 := n3_; clear n0_ n1_ n2_ n3_; clear hb hbox hg; have hcz7_0 : w6.cell? ⟨gb102, 0, none⟩ = some (.int .u64 0) := (blk_cell BK102.out 0).trans rfl; have hcz7_1 : w6.cell? ⟨gb102, 1, none⟩ = some (.int .i64 0) := (blk_cell BK102.out 1).trans rfl; have hcz7_2 : w6.cell? ⟨gb102, 2, none⟩ = some (.int .i64 0) := (blk_cell BK102.out 2).trans rfl; have hcz7_3 : w6.cell? ⟨gb102, 3, none⟩ = some (.int .i64 0) := (blk_cell BK102.out 3).trans rfl; have hcz7_4 : w6.cell? ⟨gb102, 4, none⟩ = some (.int .i64 0) := (blk_cell BK102.out 4).trans rfl; have hfz7_0 := blk_frozen BK102.out 0; have hfz7_1 := blk_frozen BK102.out 1; have hfz7_2 := blk_frozen BK102.out 2; have hfz7_3 := blk_frozen BK102.out 3; have hfz7_4 := blk_frozen BK102.out 4))
            repeat (go_quiet (first | ((with_reducible refine gate_dst (N := 4) rfl ?_); (try (refine gate_guard (by rfl) ?_; dsimp only)); refine box_event ?hg (N := 4) ?hd (cs := #[.int .u64 0, .int .i64 0, .int .i64 0, .int .i64 0, .int .i64 0]) (t := 84) ?hr ?_; (case hd => rfl); (case hg => rfl); (case hr => first | (go_simp; done) | (go_simp; rfl)); intro gb102 hg w6 hbox hb; have n0_ := Aside0.mk (below_step (by repeat (first | (with_reducible first | exact HB.out | apply below_alloc | apply pw_below_drewN | apply below_drew1) | exact HB.out)) hb); have n1_ := Aside0.mk (hbox); have n2_ := Aside0.mk ((by rw [hg]; exact (below_size (by repeat (first | (with_reducible first | exact HB.out | apply below_alloc | apply pw_below_drewN | apply below_drew1) | exact HB.out))) : w.heap.size ≤ gb102)); have n3_ := Aside0.mk ((by rw [hg]; exact (below_size (by repeat (first | (with_reducible first | exact HB.out | apply below_alloc | apply pw_below_drewN | apply below_drew1) | exact HB.out))) : w.heap.size ≤ gb102)); clear HB; have HB := n0_; have BK102 := n1_; have GW102 := n2_; have GE102 := n3_; clear n0_ n1_ n2_ n3_; clear hb hbox hg; have hcz7_0 : w6.cell? ⟨gb102, 0, none⟩ = some (.int .u64 0) := (blk_cell BK102.out 0).trans rfl; have hcz7_1 : w6.cell? ⟨gb102, 1, none⟩ = some (.int .i64 0) := (blk_cell BK102.out 1).trans rfl; have hcz7_2 : w6.cell? ⟨gb102, 2, none⟩ = some (.int .i64 0) := (blk_cell BK102.out 2).trans rfl; have hcz7_3 : w6.cell? ⟨gb102, 3, none⟩ = some (.int .i64 0) := (blk_cell BK102.out 3).trans rfl; have hcz7_4 : w6.cell? ⟨gb102, 4, none⟩ = some (.int .i64 0) := (blk_cell BK102.out 4).trans rfl; have hfz7_0 := blk_frozen BK102.out 0; have hfz7_1 := blk_frozen BK102.out 1; have hfz7_2 := blk_frozen BK102.out 2; have hfz7_3 := blk_frozen BK102.out 3; have hfz7_4 := blk_frozen BK102.out 4)); go_upto_region 7 with (first | ((with_reducible refine gate_dst (N := 4) rfl ?_); (try (refine gate_guard (by rfl) ?_; dsimp only)); refine box_event ?hg (N := 4) ?hd (cs := #[.int .u64 0, .int .i64 0, .int .i64 0, .int .i64 0, .int .i64 0]) (t := 84) ?hr ?_; (case hd => rfl); (case hg => rfl); (case hr => first | (go_simp; done) | (go_simp; rfl)); intro gb102 hg w6 hbox hb; have n0_ := Aside0.mk (below_step (by repeat (first | (with_reducible first | exact HB.out | apply below_alloc | apply pw_below_drewN | apply below_drew1) | exact HB.out)) hb); have n1_ := Aside0.mk (hbox); have n2_ := Aside0.mk ((by rw [hg]; exact (below_size (by repeat (first | (with_reducible first | exact HB.out | apply below_alloc | apply pw_below_drewN | apply below_drew1) | exact HB.out))) : w.heap.size ≤ gb102)); have n3_ := Aside0.mk ((by rw [hg]; exact (below_size (by repeat (first | (with_reducible first | exact HB.out | apply below_alloc | apply pw_below_drewN | apply below_drew1) | exact HB.out))) : w.heap.size ≤ gb102)); clear HB; have HB := n0_; have BK102 := n1_; have GW102 := n2_; have GE102 := n3_; clear n0_ n1_ n2_ n3_; clear hb hbox hg; have hcz7_0 : w6.cell? ⟨gb102, 0, none⟩ = some (.int .u64 0) := (blk_cell BK102.out 0).trans rfl; have hcz7_1 : w6.cell? ⟨gb102, 1, none⟩ = some (.int .i64 0) := (blk_cell BK102.out 1).trans rfl; have hcz7_2 : w6.cell? ⟨gb102, 2, none⟩ = some (.int .i64 0) := (blk_cell BK102.out 2).trans rfl; have hcz7_3 : w6.cell? ⟨gb102, 3, none⟩ = some (.int .i64 0) := (blk_cell BK102.out 3).trans rfl; have hcz7_4 : w6.cell? ⟨gb102, 4, none⟩ = some (.int .i64 0) := (blk_cell BK102.out 4).trans rfl; have hfz7_0 := blk_frozen BK102.out 0; have hfz7_1 := blk_frozen BK102.out 1; have hfz7_2 := blk_frozen BK102.out 2; have hfz7_3 := blk_frozen BK102.out 3; have hfz7_4 := blk_frozen BK102.out 4)))
            (try simp only [Act.put, List.setIfInBounds_toArray, List.set_cons_zero, List.set_cons_succ])
            go_cut [42] (fun v42 wc => ∃ (kq : Nat) (x42_4 : Bool), v42 = .bool x42_4 ∧ Aside0 (spec_l6MapsOK.j1 kq l0 x3_1 x42_4 ((rd_T84 l0 x3_1).f0) ((rd_T84 l0 x3_1).f1) ((rd_T84 l0 x3_1).f2) ((rd_T84 l0 x3_1).f3) ((rd_T84 l0 x3_1).f4) = some r) ∧ Aside0 (kq ≤ k1) ∧ Aside0 (wc.heap[gb102]? = some (.cells #[.int .u64 ((rd_T84 l0 x3_1).f0), .int .i64 ((rd_T84 l0 x3_1).f1), .int .i64 ((rd_T84 l0 x3_1).f2), .int .i64 ((rd_T84 l0 x3_1).f3), .int .i64 ((rd_T84 l0 x3_1).f4)] 84 (0, 0))) ∧ Aside0 (Below w.heap.size w wc))
            case first =>
              have H := HC5.out
              clear HC5
              by_cases c8 : ((rd_T84 l0 x3_1).f0) > 4611686018427387904
              · rw [if_pos c8] at H
                have c8b0 : decide (4611686018427387904 < ((rd_T84 l0 x3_1).f0)) = true := decide_eq_true c8
                clear c8
                (first | rw [c8b0] | (simp only [i64_w, i32_w]; rw [c8b0]) | skip)
                have H' := Aside0.mk H
                clear H
                have hcz9_0 : w6.cell? ⟨gb102, 0, none⟩ = some (.int .u64 0) := (blk_cell BK102.out 0).trans rfl
                have hcz9_1 : w6.cell? ⟨gb102, 1, none⟩ = some (.int .i64 0) := (blk_cell BK102.out 1).trans rfl
                have hcz9_2 : w6.cell? ⟨gb102, 2, none⟩ = some (.int .i64 0) := (blk_cell BK102.out 2).trans rfl
                have hcz9_3 : w6.cell? ⟨gb102, 3, none⟩ = some (.int .i64 0) := (blk_cell BK102.out 3).trans rfl
                have hcz9_4 : w6.cell? ⟨gb102, 4, none⟩ = some (.int .i64 0) := (blk_cell BK102.out 4).trans rfl
                have hfz9_0 := blk_frozen BK102.out 0
                have hfz9_1 := blk_frozen BK102.out 1
                have hfz9_2 := blk_frozen BK102.out 2
                have hfz9_3 := blk_frozen BK102.out 3
                have hfz9_4 := blk_frozen BK102.out 4
                go_wp2
                repeat (go_quiet (fail); try go_wp2)
                go_meet
                case rel => exact ⟨_, (true), (by first | rfl | (simp; done) | (simp [*]; done)), H', ⟨by have := HK1.out; first | omega | exact Nat.le_refl _⟩, ⟨by (with_reducible repeat (first | refine blk_drewN ?_ _ | refine blk_drew ?_ | refine blk_alloc ?_ _)); refine blk_put (cs := #[.int .u64 ((rd_T84 l0 x3_1).f0), .int .i64 ((rd_T84 l0 x3_1).f1), .int .i64 ((rd_T84 l0 x3_1).f2), .int .i64 ((rd_T84 l0 x3_1).f3), .int .i64 0]) ?_ 4 _ rfl; (with_reducible repeat (first | refine blk_drewN ?_ _ | refine blk_drew ?_ | refine blk_alloc ?_ _)); refine blk_put (cs := #[.int .u64 ((rd_T84 l0 x3_1).f0), .int .i64 ((rd_T84 l0 x3_1).f1), .int .i64 ((rd_T84 l0 x3_1).f2), .int .i64 0, .int .i64 0]) ?_ 3 _ rfl; (with_reducible repeat (first | refine blk_drewN ?_ _ | refine blk_drew ?_ | refine blk_alloc ?_ _)); refine blk_put (cs := #[.int .u64 ((rd_T84 l0 x3_1).f0), .int .i64 ((rd_T84 l0 x3_1).f1), .int .i64 0, .int .i64 0, .int .i64 0]) ?_ 2 _ rfl; (with_reducible repeat (first | refine blk_drewN ?_ _ | refine blk_drew ?_ | refine blk_alloc ?_ _)); refine blk_put (cs := #[.int .u64 ((rd_T84 l0 x3_1).f0), .int .i64 0, .int .i64 0, .int .i64 0, .int .i64 0]) ?_ 1 _ rfl; (with_reducible repeat (first | refine blk_drewN ?_ _ | refine blk_drew ?_ | refine blk_alloc ?_ _)); refine blk_put (cs := #[.int .u64 0, .int .i64 0, .int .i64 0, .int .i64 0, .int .i64 0]) ?_ 0 _ rfl; (with_reducible repeat (first | refine blk_drewN ?_ _ | refine blk_drew ?_ | refine blk_alloc ?_ _)); exact BK102.out⟩, ⟨by repeat (first | (with_reducible first | exact HB.out | apply below_alloc | apply pw_below_drewN | apply below_drew1 | refine below_set ?_ GE102.out) | exact HB.out)⟩⟩
              · rw [if_neg c8] at H
                have c8b0 : decide (4611686018427387904 < ((rd_T84 l0 x3_1).f0)) = false := decide_eq_false c8
                clear c8
                (first | rw [c8b0] | (simp only [i64_w, i32_w]; rw [c8b0]) | skip)
                by_cases c10 : ((rd_T84 l0 x3_1).f3) < 1
                · rw [if_pos c10] at H
                  have c10b0 : decide (((rd_T84 l0 x3_1).f3) < 1) = true := decide_eq_true c10
                  clear c10
                  have H' := Aside0.mk H
                  clear H
                  have hcz11_0 : w6.cell? ⟨gb102, 0, none⟩ = some (.int .u64 0) := (blk_cell BK102.out 0).trans rfl
                  have hcz11_1 : w6.cell? ⟨gb102, 1, none⟩ = some (.int .i64 0) := (blk_cell BK102.out 1).trans rfl
                  have hcz11_2 : w6.cell? ⟨gb102, 2, none⟩ = some (.int .i64 0) := (blk_cell BK102.out 2).trans rfl
                  have hcz11_3 : w6.cell? ⟨gb102, 3, none⟩ = some (.int .i64 0) := (blk_cell BK102.out 3).trans rfl
                  have hcz11_4 : w6.cell? ⟨gb102, 4, none⟩ = some (.int .i64 0) := (blk_cell BK102.out 4).trans rfl
                  have hfz11_0 := blk_frozen BK102.out 0
                  have hfz11_1 := blk_frozen BK102.out 1
                  have hfz11_2 := blk_frozen BK102.out 2
                  have hfz11_3 := blk_frozen BK102.out 3
                  have hfz11_4 := blk_frozen BK102.out 4
                  go_wp2
                  repeat (go_quiet (fail); try go_wp2)
                  go_meet
                  case rel => exact ⟨_, (true), (by first | rfl | (simp; done) | (simp [*]; done)), H', ⟨by have := HK1.out; first | omega | exact Nat.le_refl _⟩, ⟨by (with_reducible repeat (first | refine blk_drewN ?_ _ | refine blk_drew ?_ | refine blk_alloc ?_ _)); refine blk_put (cs := #[.int .u64 ((rd_T84 l0 x3_1).f0), .int .i64 ((rd_T84 l0 x3_1).f1), .int .i64 ((rd_T84 l0 x3_1).f2), .int .i64 ((rd_T84 l0 x3_1).f3), .int .i64 0]) ?_ 4 _ rfl; (with_reducible repeat (first | refine blk_drewN ?_ _ | refine blk_drew ?_ | refine blk_alloc ?_ _)); refine blk_put (cs := #[.int .u64 ((rd_T84 l0 x3_1).f0), .int .i64 ((rd_T84 l0 x3_1).f1), .int .i64 ((rd_T84 l0 x3_1).f2), .int .i64 0, .int .i64 0]) ?_ 3 _ rfl; (with_reducible repeat (first | refine blk_drewN ?_ _ | refine blk_drew ?_ | refine blk_alloc ?_ _)); refine blk_put (cs := #[.int .u64 ((rd_T84 l0 x3_1).f0), .int .i64 ((rd_T84 l0 x3_1).f1), .int .i64 0, .int .i64 0, .int .i64 0]) ?_ 2 _ rfl; (with_reducible repeat (first | refine blk_drewN ?_ _ | refine blk_drew ?_ | refine blk_alloc ?_ _)); refine blk_put (cs := #[.int .u64 ((rd_T84 l0 x3_1).f0), .int .i64 0, .int .i64 0, .int .i64 0, .int .i64 0]) ?_ 1 _ rfl; (with_reducible repeat (first | refine blk_drewN ?_ _ | refine blk_drew ?_ | refine blk_alloc ?_ _)); refine blk_put (cs := #[.int .u64 0, .int .i64 0, .int .i64 0, .int .i64 0, .int .i64 0]) ?_ 0 _ rfl; (with_reducible repeat (first | refine blk_drewN ?_ _ | refine blk_drew ?_ | refine blk_alloc ?_ _)); exact BK102.out⟩, ⟨by repeat (first | (with_reducible first | exact HB.out | apply below_alloc | apply pw_below_drewN | apply below_drew1 | refine below_set ?_ GE102.out) | exact HB.out)⟩⟩
                · rw [if_neg c10] at H
                  have c10b0 : decide (((rd_T84 l0 x3_1).f3) < 1) = false := decide_eq_false c10
                  clear c10
                  by_cases c12 : ((rd_T84 l0 x3_1).f3) > 255
                  · rw [if_pos c12] at H
                    have c12b0 : decide (255 < ((rd_T84 l0 x3_1).f3)) = true := decide_eq_true c12
                    clear c12
                    have H' := Aside0.mk H
                    clear H
                    have hcz13_0 : w6.cell? ⟨gb102, 0, none⟩ = some (.int .u64 0) := (blk_cell BK102.out 0).trans rfl
                    have hcz13_1 : w6.cell? ⟨gb102, 1, none⟩ = some (.int .i64 0) := (blk_cell BK102.out 1).trans rfl
                    have hcz13_2 : w6.cell? ⟨gb102, 2, none⟩ = some (.int .i64 0) := (blk_cell BK102.out 2).trans rfl
                    have hcz13_3 : w6.cell? ⟨gb102, 3, none⟩ = some (.int .i64 0) := (blk_cell BK102.out 3).trans rfl
                    have hcz13_4 : w6.cell? ⟨gb102, 4, none⟩ = some (.int .i64 0) := (blk_cell BK102.out 4).trans rfl
                    have hfz13_0 := blk_frozen BK102.out 0
                    have hfz13_1 := blk_frozen BK102.out 1
                    have hfz13_2 := blk_frozen BK102.out 2
                    have hfz13_3 := blk_frozen BK102.out 3
                    have hfz13_4 := blk_frozen BK102.out 4
                    go_wp2
                    repeat (go_quiet (fail); try go_wp2)
                    go_meet
                    case rel => exact ⟨_, (true), (by first | rfl | (simp; done) | (simp [*]; done)), H', ⟨by have := HK1.out; first | omega | exact Nat.le_refl _⟩, ⟨by (with_reducible repeat (first | refine blk_drewN ?_ _ | refine blk_drew ?_ | refine blk_alloc ?_ _)); refine blk_put (cs := #[.int .u64 ((rd_T84 l0 x3_1).f0), .int .i64 ((rd_T84 l0 x3_1).f1), .int .i64 ((rd_T84 l0 x3_1).f2), .int .i64 ((rd_T84 l0 x3_1).f3), .int .i64 0]) ?_ 4 _ rfl; (with_reducible repeat (first | refine blk_drewN ?_ _ | refine blk_drew ?_ | refine blk_alloc ?_ _)); refine blk_put (cs := #[.int .u64 ((rd_T84 l0 x3_1).f0), .int .i64 ((rd_T84 l0 x3_1).f1), .int .i64 ((rd_T84 l0 x3_1).f2), .int .i64 0, .int .i64 0]) ?_ 3 _ rfl; (with_reducible repeat (first | refine blk_drewN ?_ _ | refine blk_drew ?_ | refine blk_alloc ?_ _)); refine blk_put (cs := #[.int .u64 ((rd_T84 l0 x3_1).f0), .int .i64 ((rd_T84 l0 x3_1).f1), .int .i64 0, .int .i64 0, .int .i64 0]) ?_ 2 _ rfl; (with_reducible repeat (first | refine blk_drewN ?_ _ | refine blk_drew ?_ | refine blk_alloc ?_ _)); refine blk_put (cs := #[.int .u64 ((rd_T84 l0 x3_1).f0), .int .i64 0, .int .i64 0, .int .i64 0, .int .i64 0]) ?_ 1 _ rfl; (with_reducible repeat (first | refine blk_drewN ?_ _ | refine blk_drew ?_ | refine blk_alloc ?_ _)); refine blk_put (cs := #[.int .u64 0, .int .i64 0, .int .i64 0, .int .i64 0, .int .i64 0]) ?_ 0 _ rfl; (with_reducible repeat (first | refine blk_drewN ?_ _ | refine blk_drew ?_ | refine blk_alloc ?_ _)); exact BK102.out⟩, ⟨by repeat (first | (with_reducible first | exact HB.out | apply below_alloc | apply pw_below_drewN | apply below_drew1 | refine below_set ?_ GE102.out) | exact HB.out)⟩⟩
                  · rw [if_neg c12] at H
                    have c12b0 : decide (255 < ((rd_T84 l0 x3_1).f3)) = false := decide_eq_false c12
                    clear c12
                    by_cases c14 : ((rd_T84 l0 x3_1).f4) = 0
                    · rw [if_pos c14] at H
                      have c14b0 : (((rd_T84 l0 x3_1).f4) == 0) = true := beq_iff_eq.mpr c14
                      have c14b1 : (((rd_T84 l0 x3_1).f4) != 0) = false := bne_eq_false_iff_eq.mpr c14
                      clear c14
                      have H' := Aside0.mk H
                      clear H
                      have hcz15_0 : w6.cell? ⟨gb102, 0, none⟩ = some (.int .u64 0) := (blk_cell BK102.out 0).trans rfl
                      have hcz15_1 : w6.cell? ⟨gb102, 1, none⟩ = some (.int .i64 0) := (blk_cell BK102.out 1).trans rfl
                      have hcz15_2 : w6.cell? ⟨gb102, 2, none⟩ = some (.int .i64 0) := (blk_cell BK102.out 2).trans rfl
                      have hcz15_3 : w6.cell? ⟨gb102, 3, none⟩ = some (.int .i64 0) := (blk_cell BK102.out 3).trans rfl
                      have hcz15_4 : w6.cell? ⟨gb102, 4, none⟩ = some (.int .i64 0) := (blk_cell BK102.out 4).trans rfl
                      have hfz15_0 := blk_frozen BK102.out 0
                      have hfz15_1 := blk_frozen BK102.out 1
                      have hfz15_2 := blk_frozen BK102.out 2
                      have hfz15_3 := blk_frozen BK102.out 3
                      have hfz15_4 := blk_frozen BK102.out 4
                      go_wp2
                      repeat (go_quiet (fail); try go_wp2)
                      go_meet
                      case rel => exact ⟨_, (false), (by first | rfl | (simp; done) | (simp [*]; done)), H', ⟨by have := HK1.out; first | omega | exact Nat.le_refl _⟩, ⟨by (with_reducible repeat (first | refine blk_drewN ?_ _ | refine blk_drew ?_ | refine blk_alloc ?_ _)); refine blk_put (cs := #[.int .u64 ((rd_T84 l0 x3_1).f0), .int .i64 ((rd_T84 l0 x3_1).f1), .int .i64 ((rd_T84 l0 x3_1).f2), .int .i64 ((rd_T84 l0 x3_1).f3), .int .i64 0]) ?_ 4 _ rfl; (with_reducible repeat (first | refine blk_drewN ?_ _ | refine blk_drew ?_ | refine blk_alloc ?_ _)); refine blk_put (cs := #[.int .u64 ((rd_T84 l0 x3_1).f0), .int .i64 ((rd_T84 l0 x3_1).f1), .int .i64 ((rd_T84 l0 x3_1).f2), .int .i64 0, .int .i64 0]) ?_ 3 _ rfl; (with_reducible repeat (first | refine blk_drewN ?_ _ | refine blk_drew ?_ | refine blk_alloc ?_ _)); refine blk_put (cs := #[.int .u64 ((rd_T84 l0 x3_1).f0), .int .i64 ((rd_T84 l0 x3_1).f1), .int .i64 0, .int .i64 0, .int .i64 0]) ?_ 2 _ rfl; (with_reducible repeat (first | refine blk_drewN ?_ _ | refine blk_drew ?_ | refine blk_alloc ?_ _)); refine blk_put (cs := #[.int .u64 ((rd_T84 l0 x3_1).f0), .int .i64 0, .int .i64 0, .int .i64 0, .int .i64 0]) ?_ 1 _ rfl; (with_reducible repeat (first | refine blk_drewN ?_ _ | refine blk_drew ?_ | refine blk_alloc ?_ _)); refine blk_put (cs := #[.int .u64 0, .int .i64 0, .int .i64 0, .int .i64 0, .int .i64 0]) ?_ 0 _ rfl; (with_reducible repeat (first | refine blk_drewN ?_ _ | refine blk_drew ?_ | refine blk_alloc ?_ _)); exact BK102.out⟩, ⟨by repeat (first | (with_reducible first | exact HB.out | apply below_alloc | apply pw_below_drewN | apply below_drew1 | refine below_set ?_ GE102.out) | exact HB.out)⟩⟩
                    · rw [if_neg c14] at H
                      have c14b0 : (((rd_T84 l0 x3_1).f4) == 0) = false := beq_eq_false_iff_ne.mpr c14
                      have c14b1 : (((rd_T84 l0 x3_1).f4) != 0) = true := bne_iff_ne.mpr c14
                      have H' := Aside0.mk H
                      clear H
                      have hcz16_0 : w6.cell? ⟨gb102, 0, none⟩ = some (.int .u64 0) := (blk_cell BK102.out 0).trans rfl
                      have hcz16_1 : w6.cell? ⟨gb102, 1, none⟩ = some (.int .i64 0) := (blk_cell BK102.out 1).trans rfl
                      have hcz16_2 : w6.cell? ⟨gb102, 2, none⟩ = some (.int .i64 0) := (blk_cell BK102.out 2).trans rfl
                      have hcz16_3 : w6.cell? ⟨gb102, 3, none⟩ = some (.int .i64 0) := (blk_cell BK102.out 3).trans rfl
                      have hcz16_4 : w6.cell? ⟨gb102, 4, none⟩ = some (.int .i64 0) := (blk_cell BK102.out 4).trans rfl
                      have hfz16_0 := blk_frozen BK102.out 0
                      have hfz16_1 := blk_frozen BK102.out 1
                      have hfz16_2 := blk_frozen BK102.out 2
                      have hfz16_3 := blk_frozen BK102.out 3
                      have hfz16_4 := blk_frozen BK102.out 4
                      go_wp2
                      repeat (go_quiet (fail); try go_wp2)
                      go_meet
                      case rel => exact ⟨_, ((((rd_T84 l0 x3_1).f4) != 1)), (by first | rfl | (simp; done) | (simp [*]; done)), H', ⟨by have := HK1.out; first | omega | exact Nat.le_refl _⟩, ⟨by (with_reducible repeat (first | refine blk_drewN ?_ _ | refine blk_drew ?_ | refine blk_alloc ?_ _)); refine blk_put (cs := #[.int .u64 ((rd_T84 l0 x3_1).f0), .int .i64 ((rd_T84 l0 x3_1).f1), .int .i64 ((rd_T84 l0 x3_1).f2), .int .i64 ((rd_T84 l0 x3_1).f3), .int .i64 0]) ?_ 4 _ rfl; (with_reducible repeat (first | refine blk_drewN ?_ _ | refine blk_drew ?_ | refine blk_alloc ?_ _)); refine blk_put (cs := #[.int .u64 ((rd_T84 l0 x3_1).f0), .int .i64 ((rd_T84 l0 x3_1).f1), .int .i64 ((rd_T84 l0 x3_1).f2), .int .i64 0, .int .i64 0]) ?_ 3 _ rfl; (with_reducible repeat (first | refine blk_drewN ?_ _ | refine blk_drew ?_ | refine blk_alloc ?_ _)); refine blk_put (cs := #[.int .u64 ((rd_T84 l0 x3_1).f0), .int .i64 ((rd_T84 l0 x3_1).f1), .int .i64 0, .int .i64 0, .int .i64 0]) ?_ 2 _ rfl; (with_reducible repeat (first | refine blk_drewN ?_ _ | refine blk_drew ?_ | refine blk_alloc ?_ _)); refine blk_put (cs := #[.int .u64 ((rd_T84 l0 x3_1).f0), .int .i64 0, .int .i64 0, .int .i64 0, .int .i64 0]) ?_ 1 _ rfl; (with_reducible repeat (first | refine blk_drewN ?_ _ | refine blk_drew ?_ | refine blk_alloc ?_ _)); refine blk_put (cs := #[.int .u64 0, .int .i64 0, .int .i64 0, .int .i64 0, .int .i64 0]) ?_ 0 _ rfl; (with_reducible repeat (first | refine blk_drewN ?_ _ | refine blk_drew ?_ | refine blk_alloc ?_ _)); exact BK102.out⟩, ⟨by repeat (first | (with_reducible first | exact HB.out | apply below_alloc | apply pw_below_drewN | apply below_drew1 | refine below_set ?_ GE102.out) | exact HB.out)⟩⟩
            case rest =>
              clear HC5
              try clear c1
              try clear p1
              try clear q1
              try clear hx1
              try clear c2
              try clear c2b0
              try clear c2b1
              try clear p2
              try clear c3
              try clear c3b0
              try clear c4
              try clear c4b0
              try clear c7
              try clear c8
              try clear c8b0
              try clear c10
              try clear c10b0
              try clear p10
              try clear q10
              try clear hx10
              try clear c12
              try clear c12b0
              try clear c14
              try clear c14b0
              try clear c14b1
              try clear hcz11_0
              try clear hcz11_1
              try clear hcz11_2
              try clear hcz11_3
              try clear hcz11_4
              try clear hcz13_0
              try clear hcz13_1
              try clear hcz13_2
              try clear hcz13_3
              try clear hcz13_4
              try clear hcz15_0
              try clear hcz15_1
              try clear hcz15_2
              try clear hcz15_3
              try clear hcz15_4
              try clear hcz16_0
              try clear hcz16_1
              try clear hcz16_2
              try clear hcz16_3
              try clear hcz16_4
              try clear hcz7_0
              try clear hcz7_1
              try clear hcz7_2
              try clear hcz7_3
              try clear hcz7_4
              try clear hcz9_0
              try clear hcz9_1
              try clear hcz9_2
              try clear hcz9_3
              try clear hcz9_4
              try clear hfz11_0
              try clear hfz11_1
              try clear hfz11_2
              try clear hfz11_3
              try clear hfz11_4
              try clear hfz13_0
              try clear hfz13_1
              try clear hfz13_2
              try clear hfz13_3
              try clear hfz13_4
              try clear hfz15_0
              try clear hfz15_1
              try clear hfz15_2
              try clear hfz15_3
              try clear hfz15_4
              try clear hfz16_0
              try clear hfz16_1
              try clear hfz16_2
              try clear hfz16_3
              try clear hfz16_4
              try clear hfz7_0
              try clear hfz7_1
              try clear hfz7_2
              try clear hfz7_3
              try clear hfz7_4
              try clear hfz9_0
              try clear hfz9_1
              try clear hfz9_2
              try clear hfz9_3
              try clear hfz9_4
              try clear hx101_0
              try clear hx101_1
              try clear hx101_2
              try clear hx101_3
              try clear hx101_4
              try clear p101
              try clear p2
              try clear q101
              obtain ⟨kq, x42_4, rfl, HA, HJ4, BK102, HB⟩ := hcut
              cases kq with
              | zero => exact absurd HA.out (by simp [spec_l6MapsOK.j1])
              | succ kj4 =>
                have H := HA.out
                clear HA
                simp only [spec_l6MapsOK.j1] at H
                by_cases c17 : x42_4 = true
                · subst c17
                  have H1 : (some false) = some r := by rw [if_pos rfl] at H; exact H
                  clear H
                  have H := H1
                  clear H1
                  obtain rfl := Option.some.inj H
                  go_wp2
                  repeat (go_quiet (fail); try go_wp2)
                  go_ret
                  exact ⟨by first | rfl | (simp [errW_none, errW_some] <;> rfl) | (simp [*, errW_none, errW_some] <;> rfl), by repeat (first | (with_reducible first | exact HB.out | apply below_alloc | apply pw_below_drewN | apply below_drew1 | refine below_set ?_ GE102.out) | exact HB.out)⟩
                · replace c17 := Bool.eq_false_iff.mpr c17
                  subst c17
                  have H1 : (if ((rd_T84 l0 x3_1).f2) = 0 then (if ((rd_T84 l0 x3_1).f1) ≥ 1 then (if ((rd_T84 l0 x3_1).f2) = 1 then (if ((rd_T84 l0 x3_1).f1) = 0 then (if ((rd_T84 l0 x3_1).f1) ≤ 32 then (if x3_1 > 0 then (if 0 ≤ (wrap64 (x3_1 - 1)) then (if (wrap64 (x3_1 - 1)) < (l0.length : Int) then (if ((rd_T84 l0 x3_1).f0) < (IntKind.u64.wrap (((rd_T84 l0 (wrap64 (x3_1 - 1))).f0) + (IntKind.u64.wrap ((rd_T84 l0 (wrap64 (x3_1 - 1))).f1)))) then (some false) else (spec_l6MapsOK.l0 kj4 l0 (wrap64 (x3_1 + 1)))) else (none)) else (none)) else (spec_l6MapsOK.l0 kj4 l0 (wrap64 (x3_1 + 1)))) else (if (x3_1 = (wrap64 ((l0.length : Int) - 1))) then (if x3_1 > 0 then (if 0 ≤ (wrap64 (x3_1 - 1)) then (if (wrap64 (x3_1 - 1)) < (l0.length : Int) then (if ((rd_T84 l0 x3_1).f0) < (IntKind.u64.wrap (((rd_T84 l0 (wrap64 (x3_1 - 1))).f0) + (IntKind.u64.wrap ((rd_T84 l0 (wrap64 (x3_1 - 1))).f1)))) then (some false) else (spec_l6MapsOK.l0 kj4 l0 (wrap64 (x3_1 + 1)))) else (none)) else (none)) else (spec_l6MapsOK.l0 kj4 l0 (wrap64 (x3_1 + 1)))) else (some false))) else (if ((rd_T84 l0 x3_1).f1) ≤ 32 then (if x3_1 > 0 then (if 0 ≤ (wrap64 (x3_1 - 1)) then (if (wrap64 (x3_1 - 1)) < (l0.length : Int) then (if ((rd_T84 l0 x3_1).f0) < (IntKind.u64.wrap (((rd_T84 l0 (wrap64 (x3_1 - 1))).f0) + (IntKind.u64.wrap ((rd_T84 l0 (wrap64 (x3_1 - 1))).f1)))) then (some false) else (spec_l6MapsOK.l0 kj4 l0 (wrap64 (x3_1 + 1)))) else (none)) else (none)) else (spec_l6MapsOK.l0 kj4 l0 (wrap64 (x3_1 + 1)))) else (some false))) else (if ((rd_T84 l0 x3_1).f1) ≤ 32 then (if x3_1 > 0 then (if 0 ≤ (wrap64 (x3_1 - 1)) then (if (wrap64 (x3_1 - 1)) < (l0.length : Int) then (if ((rd_T84 l0 x3_1).f0) < (IntKind.u64.wrap (((rd_T84 l0 (wrap64 (x3_1 - 1))).f0) + (IntKind.u64.wrap ((rd_T84 l0 (wrap64 (x3_1 - 1))).f1)))) then (some false) else (spec_l6MapsOK.l0 kj4 l0 (wrap64 (x3_1 + 1)))) else (none)) else (none)) else (spec_l6MapsOK.l0 kj4 l0 (wrap64 (x3_1 + 1)))) else (some false))) else (if ((rd_T84 l0 x3_1).f2) = 1 then (if ((rd_T84 l0 x3_1).f1) = 0 then (if (x3_1 = (wrap64 ((l0.length : Int) - 1))) then (if x3_1 > 0 then (if 0 ≤ (wrap64 (x3_1 - 1)) then (if (wrap64 (x3_1 - 1)) < (l0.length : Int) then (if ((rd_T84 l0 x3_1).f0) < (IntKind.u64.wrap (((rd_T84 l0 (wrap64 (x3_1 - 1))).f0) + (IntKind.u64.wrap ((rd_T84 l0 (wrap64 (x3_1 - 1))).f1)))) then (some false) else (spec_l6MapsOK.l0 kj4 l0 (wrap64 (x3_1 + 1)))) else (none)) else (none)) else (spec_l6MapsOK.l0 kj4 l0 (wrap64 (x3_1 + 1)))) else (some false)) else (some false)) else (some false))) else (if ((rd_T84 l0 x3_1).f2) = 1 then (if ((rd_T84 l0 x3_1).f1) = 0 then (if (x3_1 = (wrap64 ((l0.length : Int) - 1))) then (if x3_1 > 0 then (if 0 ≤ (wrap64 (x3_1 - 1)) then (if (wrap64 (x3_1 - 1)) < (l0.length : Int) then (if ((rd_T84 l0 x3_1).f0) < (IntKind.u64.wrap (((rd_T84 l0 (wrap64 (x3_1 - 1))).f0) + (IntKind.u64.wrap ((rd_T84 l0 (wrap64 (x3_1 - 1))).f1)))) then (some false) else (spec_l6MapsOK.l0 kj4 l0 (wrap64 (x3_1 + 1)))) else (none)) else (none)) else (spec_l6MapsOK.l0 kj4 l0 (wrap64 (x3_1 + 1)))) else (some false)) else (some false)) else (some false))) = some r := by rw [if_neg (show ¬ (false = true) by decide)] at H; exact H
                  clear H
                  have H := H1
                  clear H1
                  by_cases c18 : ((rd_T84 l0 x3_1).f2) = 0
                  · rw [if_pos c18] at H
                    have c18b0 : (((rd_T84 l0 x3_1).f2) == 0) = true := beq_iff_eq.mpr c18
                    have c18b1 : (((rd_T84 l0 x3_1).f2) != 0) = false := bne_eq_false_iff_eq.mpr c18
                    clear c18
                    by_cases c19 : ((rd_T84 l0 x3_1).f1) ≥ 1
                    · rw [if_pos c19] at H
                      have c19b0 : decide (1 ≤ ((rd_T84 l0 x3_1).f1)) = true := decide_eq_true c19
                      clear c19
                      by_cases c20 : ((rd_T84 l0 x3_1).f2) = 1
                      · rw [if_pos c20] at H
                        have c20b0 : (((rd_T84 l0 x3_1).f2) == 1) = true := beq_iff_eq.mpr c20
                        have c20b1 : (((rd_T84 l0 x3_1).f2) != 1) = false := bne_eq_false_iff_eq.mpr c20
                        clear c20
                        by_cases c21 : ((rd_T84 l0 x3_1).f1) = 0
                        · rw [if_pos c21] at H
                          have c21b0 : (((rd_T84 l0 x3_1).f1) == 0) = true := beq_iff_eq.mpr c21
                          have c21b1 : (((rd_T84 l0 x3_1).f1) != 0) = false := bne_eq_false_iff_eq.mpr c21
                          clear c21
                          by_cases c22 : ((rd_T84 l0 x3_1).f1) ≤ 32
                          · rw [if_pos c22] at H
                            have c22b0 : decide (((rd_T84 l0 x3_1).f1) ≤ 32) = true := decide_eq_true c22
                            clear c22
                            by_cases c23 : x3_1 > 0
                            · rw [if_pos c23] at H
                              have c23b0 : decide (0 < x3_1) = true := decide_eq_true c23
                              clear c23
                              obtain ⟨ji24, hji24⟩ : ∃ j_ : Int, (wrap64 (x3_1 - 1)) = j_ := ⟨_, rfl⟩
                              replace H : (if 0 ≤ (ji24) then (if (ji24) < (l0.length : Int) then (if ((rd_T84 l0 x3_1).f0) < (IntKind.u64.wrap (((rd_T84 l0 (ji24)).f0) + (IntKind.u64.wrap ((rd_T84 l0 (ji24)).f1)))) then (some false) else (spec_l6MapsOK.l0 kj4 l0 (wrap64 (x3_1 + 1)))) else (none)) else (none)) = some r := by first | (rw [hji24] at H; exact H) | (simp only [hji24] at H ⊢; exact H)
                              have hji24w : (IntKind.i64.wrap (x3_1 - 1)) = ji24 := (i64_w _).trans hji24
                              by_cases c25 : 0 ≤ (ji24)
                              · rw [if_pos c25] at H
                                have c25b0 : decide (0 ≤ (ji24)) = true := decide_eq_true c25
                                clear c25
                                by_cases c26 : (ji24) < (l0.length : Int)
                                · rw [if_pos c26] at H
                                  have c26b0 : decide ((ji24) < (l0.length : Int)) = true := decide_eq_true c26
                                  clear c26
                                  by_cases c27 : ((rd_T84 l0 x3_1).f0) < (IntKind.u64.wrap (((rd_T84 l0 (ji24)).f0) + (IntKind.u64.wrap ((rd_T84 l0 (ji24)).f1))))
                                  · rw [if_pos c27] at H
                                    have c27b0 : decide (((rd_T84 l0 x3_1).f0) < (IntKind.u64.wrap (((rd_T84 l0 (ji24)).f0) + (IntKind.u64.wrap ((rd_T84 l0 (ji24)).f1))))) = true := decide_eq_true c27
                                    clear c27
                                    obtain rfl := Option.some.inj H
                                    have hcz28_0 : wc.cell? ⟨gb102, 0, none⟩ = some (.int .u64 ((rd_T84 l0 x3_1).f0)) := (blk_cell BK102.out 0).trans rfl
                                    have hcz28_1 : wc.cell? ⟨gb102, 1, none⟩ = some (.int .i64 ((rd_T84 l0 x3_1).f1)) := (blk_cell BK102.out 1).trans rfl
                                    have hcz28_2 : wc.cell? ⟨gb102, 2, none⟩ = some (.int .i64 ((rd_T84 l0 x3_1).f2)) := (blk_cell BK102.out 2).trans rfl
                                    have hcz28_3 : wc.cell? ⟨gb102, 3, none⟩ = some (.int .i64 ((rd_T84 l0 x3_1).f3)) := (blk_cell BK102.out 3).trans rfl
                                    have hcz28_4 : wc.cell? ⟨gb102, 4, none⟩ = some (.int .i64 ((rd_T84 l0 x3_1).f4)) := (blk_cell BK102.out 4).trans rfl
                                    have hfz28_0 := blk_frozen BK102.out 0
                                    have hfz28_1 := blk_frozen BK102.out 1
                                    have hfz28_2 := blk_frozen BK102.out 2
                                    have hfz28_3 := blk_frozen BK102.out 3
                                    have hfz28_4 := blk_frozen BK102.out 4
                                    have p103 : 0 ≤ ((ji24) : Int) := of_decide_eq_true (by first | (with_reducible assumption) | assumption)
                                    have q103 : (ji24) < (l0.length : Int) := of_decide_eq_true (by first | (with_reducible assumption) | assumption)
                                    obtain ⟨ad103, e103, hx103_0, hx103_1, hx103_2, hx103_3, hx103_4⟩ := at_T84 HR0.out (ji24) p103 q103
                                    obtain rfl : ad101 = ad103 := (by injection e103)
                                    replace hx103_0 := (HB.out.cell (World.block_lt_of_cell? w _ hx103_0)).trans hx103_0
                                    replace hx103_1 := (HB.out.cell (World.block_lt_of_cell? w _ hx103_1)).trans hx103_1
                                    replace hx103_2 := (HB.out.cell (World.block_lt_of_cell? w _ hx103_2)).trans hx103_2
                                    replace hx103_3 := (HB.out.cell (World.block_lt_of_cell? w _ hx103_3)).trans hx103_3
                                    replace hx103_4 := (HB.out.cell (World.block_lt_of_cell? w _ hx103_4)).trans hx103_4
                                    replace p103 := eq_true p103
                                    replace q103 := eq_true q103
                                    have p104 : 0 ≤ ((ji24) : Int) := of_decide_eq_true (by first | (with_reducible assumption) | assumption)
                                    have q104 : (ji24) < (l0.length : Int) := of_decide_eq_true (by first | (with_reducible assumption) | assumption)
                                    obtain ⟨ad104, e104, hx104_0, hx104_1, hx104_2, hx104_3, hx104_4⟩ := at_T84 HR0.out (ji24) p104 q104
                                    obtain rfl : ad101 = ad104 := (by injection e104)
                                    replace hx104_0 := (HB.out.cell (World.block_lt_of_cell? w _ hx104_0)).trans hx104_0
                                    replace hx104_1 := (HB.out.cell (World.block_lt_of_cell? w _ hx104_1)).trans hx104_1
                                    replace hx104_2 := (HB.out.cell (World.block_lt_of_cell? w _ hx104_2)).trans hx104_2
                                    replace hx104_3 := (HB.out.cell (World.block_lt_of_cell? w _ hx104_3)).trans hx104_3
                                    replace hx104_4 := (HB.out.cell (World.block_lt_of_cell? w _ hx104_4)).trans hx104_4
                                    replace p104 := eq_true p104
                                    replace q104 := eq_true q104
                                    go_wp2
                                    repeat (go_quiet (fail); try go_wp2)
                                    go_ret
                                    exact ⟨by first | rfl | (simp [errW_none, errW_some] <;> rfl) | (simp only [← hji24]; first | rfl | (simp [errW_none, errW_some] <;> rfl)) | (simp [*, errW_none, errW_some] <;> rfl), by repeat (first | (with_reducible first | exact HB.out | apply below_alloc | apply pw_below_drewN | apply below_drew1 | refine below_set ?_ GE102.out) | exact HB.out)⟩
                                  · rw [if_neg c27] at H
                                    have c27b0 : decide (((rd_T84 l0 x3_1).f0) < (IntKind.u64.wrap (((rd_T84 l0 (ji24)).f0) + (IntKind.u64.wrap ((rd_T84 l0 (ji24)).f1))))) = false := decide_eq_false c27
                                    clear c27
                                    have H' := Aside0.mk H
                                    clear H
                                    have hcz29_0 : wc.cell? ⟨gb102, 0, none⟩ = some (.int .u64 ((rd_T84 l0 x3_1).f0)) := (blk_cell BK102.out 0).trans rfl
                                    have hcz29_1 : wc.cell? ⟨gb102, 1, none⟩ = some (.int .i64 ((rd_T84 l0 x3_1).f1)) := (blk_cell BK102.out 1).trans rfl
                                    have hcz29_2 : wc.cell? ⟨gb102, 2, none⟩ = some (.int .i64 ((rd_T84 l0 x3_1).f2)) := (blk_cell BK102.out 2).trans rfl
                                    have hcz29_3 : wc.cell? ⟨gb102, 3, none⟩ = some (.int .i64 ((rd_T84 l0 x3_1).f3)) := (blk_cell BK102.out 3).trans rfl
                                    have hcz29_4 : wc.cell? ⟨gb102, 4, none⟩ = some (.int .i64 ((rd_T84 l0 x3_1).f4)) := (blk_cell BK102.out 4).trans rfl
                                    have hfz29_0 := blk_frozen BK102.out 0
                                    have hfz29_1 := blk_frozen BK102.out 1
                                    have hfz29_2 := blk_frozen BK102.out 2
                                    have hfz29_3 := blk_frozen BK102.out 3
                                    have hfz29_4 := blk_frozen BK102.out 4
                                    have p103 : 0 ≤ ((ji24) : Int) := of_decide_eq_true (by first | (with_reducible assumption) | assumption)
                                    have q103 : (ji24) < (l0.length : Int) := of_decide_eq_true (by first | (with_reducible assumption) | assumption)
                                    obtain ⟨ad103, e103, hx103_0, hx103_1, hx103_2, hx103_3, hx103_4⟩ := at_T84 HR0.out (ji24) p103 q103
                                    obtain rfl : ad101 = ad103 := (by injection e103)
                                    replace hx103_0 := (HB.out.cell (World.block_lt_of_cell? w _ hx103_0)).trans hx103_0
                                    replace hx103_1 := (HB.out.cell (World.block_lt_of_cell? w _ hx103_1)).trans hx103_1
                                    replace hx103_2 := (HB.out.cell (World.block_lt_of_cell? w _ hx103_2)).trans hx103_2
                                    replace hx103_3 := (HB.out.cell (World.block_lt_of_cell? w _ hx103_3)).trans hx103_3
                                    replace hx103_4 := (HB.out.cell (World.block_lt_of_cell? w _ hx103_4)).trans hx103_4
                                    replace p103 := eq_true p103
                                    replace q103 := eq_true q103
                                    have p104 : 0 ≤ ((ji24) : Int) := of_decide_eq_true (by first | (with_reducible assumption) | assumption)
                                    have q104 : (ji24) < (l0.length : Int) := of_decide_eq_true (by first | (with_reducible assumption) | assumption)
                                    obtain ⟨ad104, e104, hx104_0, hx104_1, hx104_2, hx104_3, hx104_4⟩ := at_T84 HR0.out (ji24) p104 q104
                                    obtain rfl : ad101 = ad104 := (by injection e104)
                                    replace hx104_0 := (HB.out.cell (World.block_lt_of_cell? w _ hx104_0)).trans hx104_0
                                    replace hx104_1 := (HB.out.cell (World.block_lt_of_cell? w _ hx104_1)).trans hx104_1
                                    replace hx104_2 := (HB.out.cell (World.block_lt_of_cell? w _ hx104_2)).trans hx104_2
                                    replace hx104_3 := (HB.out.cell (World.block_lt_of_cell? w _ hx104_3)).trans hx104_3
                                    replace hx104_4 := (HB.out.cell (World.block_lt_of_cell? w _ hx104_4)).trans hx104_4
                                    replace p104 := eq_true p104
                                    replace q104 := eq_true q104
                                    go_wp2
                                    repeat (go_quiet (fail); try go_wp2)
                                    go_roundg kj4
                                    case measure => have := HK1.out; have := HJ4.out; omega
                                    case rel => exact ⟨(wrap64 (x3_1 + 1)), (by first | rfl | (simp; done) | (simp [*]; done)), H', ⟨by have := HK1.out; have := HJ4.out; omega⟩, ⟨by repeat (first | (with_reducible first | exact HB.out | apply below_alloc | apply pw_below_drewN | apply below_drew1 | refine below_set ?_ GE102.out) | exact HB.out)⟩⟩
                                · rw [if_neg c26] at H
                                  exact absurd H (by simp)
                              · rw [if_neg c25] at H
                                exact absurd H (by simp)
                            · rw [if_neg c23] at H
                              have c23b0 : decide (0 < x3_1) = false := decide_eq_false c23
                              clear c23
                              have H' := Aside0.mk H
                              clear H
                              have hcz30_0 : wc.cell? ⟨gb102, 0, none⟩ = some (.int .u64 ((rd_T84 l0 x3_1).f0)) := (blk_cell BK102.out 0).trans rfl
                              have hcz30_1 : wc.cell? ⟨gb102, 1, none⟩ = some (.int .i64 ((rd_T84 l0 x3_1).f1)) := (blk_cell BK102.out 1).trans rfl
                              have hcz30_2 : wc.cell? ⟨gb102, 2, none⟩ = some (.int .i64 ((rd_T84 l0 x3_1).f2)) := (blk_cell BK102.out 2).trans rfl
                              have hcz30_3 : wc.cell? ⟨gb102, 3, none⟩ = some (.int .i64 ((rd_T84 l0 x3_1).f3)) := (blk_cell BK102.out 3).trans rfl
                              have hcz30_4 : wc.cell? ⟨gb102, 4, none⟩ = some (.int .i64 ((rd_T84 l0 x3_1).f4)) := (blk_cell BK102.out 4).trans rfl
                              have hfz30_0 := blk_frozen BK102.out 0
                              have hfz30_1 := blk_frozen BK102.out 1
                              have hfz30_2 := blk_frozen BK102.out 2
                              have hfz30_3 := blk_frozen BK102.out 3
                              have hfz30_4 := blk_frozen BK102.out 4
                              go_wp2
                              repeat (go_quiet (fail); try go_wp2)
                              go_roundg kj4
                              case measure => have := HK1.out; have := HJ4.out; omega
                              case rel => exact ⟨(wrap64 (x3_1 + 1)), (by first | rfl | (simp; done) | (simp [*]; done)), H', ⟨by have := HK1.out; have := HJ4.out; omega⟩, ⟨by repeat (first | (with_reducible first | exact HB.out | apply below_alloc | apply pw_below_drewN | apply below_drew1 | refine below_set ?_ GE102.out) | exact HB.out)⟩⟩
                          · rw [if_neg c22] at H
                            have c22b0 : decide (((rd_T84 l0 x3_1).f1) ≤ 32) = false := decide_eq_false c22
                            clear c22
                            by_cases c31 : (x3_1 = (wrap64 ((l0.length : Int) - 1)))
                            · rw [if_pos c31] at H
                              have c31b0 : (x3_1 == (wrap64 ((l0.length : Int) - 1))) = true := beq_iff_eq.mpr c31
                              have c31b1 : (x3_1 != (wrap64 ((l0.length : Int) - 1))) = false := bne_eq_false_iff_eq.mpr c31
                              clear c31
                              by_cases c32 : x3_1 > 0
                              · rw [if_pos c32] at H
                                have c32b0 : decide (0 < x3_1) = true := decide_eq_true c32
                                clear c32
                                obtain ⟨ji33, hji33⟩ : ∃ j_ : Int, (wrap64 (x3_1 - 1)) = j_ := ⟨_, rfl⟩
                                replace H : (if 0 ≤ (ji33) then (if (ji33) < (l0.length : Int) then (if ((rd_T84 l0 x3_1).f0) < (IntKind.u64.wrap (((rd_T84 l0 (ji33)).f0) + (IntKind.u64.wrap ((rd_T84 l0 (ji33)).f1)))) then (some false) else (spec_l6MapsOK.l0 kj4 l0 (wrap64 (x3_1 + 1)))) else (none)) else (none)) = some r := by first | (rw [hji33] at H; exact H) | (simp only [hji33] at H ⊢; exact H)
                                have hji33w : (IntKind.i64.wrap (x3_1 - 1)) = ji33 := (i64_w _).trans hji33
                                by_cases c34 : 0 ≤ (ji33)
                                · rw [if_pos c34] at H
                                  have c34b0 : decide (0 ≤ (ji33)) = true := decide_eq_true c34
                                  clear c34
                                  by_cases c35 : (ji33) < (l0.length : Int)
                                  · rw [if_pos c35] at H
                                    have c35b0 : decide ((ji33) < (l0.length : Int)) = true := decide_eq_true c35
                                    clear c35
                                    by_cases c36 : ((rd_T84 l0 x3_1).f0) < (IntKind.u64.wrap (((rd_T84 l0 (ji33)).f0) + (IntKind.u64.wrap ((rd_T84 l0 (ji33)).f1))))
                                    · rw [if_pos c36] at H
                                      have c36b0 : decide (((rd_T84 l0 x3_1).f0) < (IntKind.u64.wrap (((rd_T84 l0 (ji33)).f0) + (IntKind.u64.wrap ((rd_T84 l0 (ji33)).f1))))) = true := decide_eq_true c36
                                      clear c36
                                      obtain rfl := Option.some.inj H
                                      have hcz37_0 : wc.cell? ⟨gb102, 0, none⟩ = some (.int .u64 ((rd_T84 l0 x3_1).f0)) := (blk_cell BK102.out 0).trans rfl
                                      have hcz37_1 : wc.cell? ⟨gb102, 1, none⟩ = some (.int .i64 ((rd_T84 l0 x3_1).f1)) := (blk_cell BK102.out 1).trans rfl
                                      have hcz37_2 : wc.cell? ⟨gb102, 2, none⟩ = some (.int .i64 ((rd_T84 l0 x3_1).f2)) := (blk_cell BK102.out 2).trans rfl
                                      have hcz37_3 : wc.cell? ⟨gb102, 3, none⟩ = some (.int .i64 ((rd_T84 l0 x3_1).f3)) := (blk_cell BK102.out 3).trans rfl
                                      have hcz37_4 : wc.cell? ⟨gb102, 4, none⟩ = some (.int .i64 ((rd_T84 l0 x3_1).f4)) := (blk_cell BK102.out 4).trans rfl
                                      have hfz37_0 := blk_frozen BK102.out 0
                                      have hfz37_1 := blk_frozen BK102.out 1
                                      have hfz37_2 := blk_frozen BK102.out 2
                                      have hfz37_3 := blk_frozen BK102.out 3
                                      have hfz37_4 := blk_frozen BK102.out 4
                                      have p105 : 0 ≤ ((ji33) : Int) := of_decide_eq_true (by first | (with_reducible assumption) | assumption)
                                      have q105 : (ji33) < (l0.length : Int) := of_decide_eq_true (by first | (with_reducible assumption) | assumption)
                                      obtain ⟨ad105, e105, hx105_0, hx105_1, hx105_2, hx105_3, hx105_4⟩ := at_T84 HR0.out (ji33) p105 q105
                                      obtain rfl : ad101 = ad105 := (by injection e105)
                                      replace hx105_0 := (HB.out.cell (World.block_lt_of_cell? w _ hx105_0)).trans hx105_0
                                      replace hx105_1 := (HB.out.cell (World.block_lt_of_cell? w _ hx105_1)).trans hx105_1
                                      replace hx105_2 := (HB.out.cell (World.block_lt_of_cell? w _ hx105_2)).trans hx105_2
                                      replace hx105_3 := (HB.out.cell (World.block_lt_of_cell? w _ hx105_3)).trans hx105_3
                                      replace hx105_4 := (HB.out.cell (World.block_lt_of_cell? w _ hx105_4)).trans hx105_4
                                      replace p105 := eq_true p105
                                      replace q105 := eq_true q105
                                      have p106 : 0 ≤ ((ji33) : Int) := of_decide_eq_true (by first | (with_reducible assumption) | assumption)
                                      have q106 : (ji33) < (l0.length : Int) := of_decide_eq_true (by first | (with_reducible assumption) | assumption)
                                      obtain ⟨ad106, e106, hx106_0, hx106_1, hx106_2, hx106_3, hx106_4⟩ := at_T84 HR0.out (ji33) p106 q106
                                      obtain rfl : ad101 = ad106 := (by injection e106)
                                      replace hx106_0 := (HB.out.cell (World.block_lt_of_cell? w _ hx106_0)).trans hx106_0
                                      replace hx106_1 := (HB.out.cell (World.block_lt_of_cell? w _ hx106_1)).trans hx106_1
                                      replace hx106_2 := (HB.out.cell (World.block_lt_of_cell? w _ hx106_2)).trans hx106_2
                                      replace hx106_3 := (HB.out.cell (World.block_lt_of_cell? w _ hx106_3)).trans hx106_3
                                      replace hx106_4 := (HB.out.cell (World.block_lt_of_cell? w _ hx106_4)).trans hx106_4
                                      replace p106 := eq_true p106
                                      replace q106 := eq_true q106
                                      go_wp2
                                      repeat (go_quiet (fail); try go_wp2)
                                      go_ret
                                      exact ⟨by first | rfl | (simp [errW_none, errW_some] <;> rfl) | (simp only [← hji33]; first | rfl | (simp [errW_none, errW_some] <;> rfl)) | (simp [*, errW_none, errW_some] <;> rfl), by repeat (first | (with_reducible first | exact HB.out | apply below_alloc | apply pw_below_drewN | apply below_drew1 | refine below_set ?_ GE102.out) | exact HB.out)⟩
                                    · rw [if_neg c36] at H
                                      have c36b0 : decide (((rd_T84 l0 x3_1).f0) < (IntKind.u64.wrap (((rd_T84 l0 (ji33)).f0) + (IntKind.u64.wrap ((rd_T84 l0 (ji33)).f1))))) = false := decide_eq_false c36
                                      clear c36
                                      have H' := Aside0.mk H
                                      clear H
                                      have hcz38_0 : wc.cell? ⟨gb102, 0, none⟩ = some (.int .u64 ((rd_T84 l0 x3_1).f0)) := (blk_cell BK102.out 0).trans rfl
                                      have hcz38_1 : wc.cell? ⟨gb102, 1, none⟩ = some (.int .i64 ((rd_T84 l0 x3_1).f1)) := (blk_cell BK102.out 1).trans rfl
                                      have hcz38_2 : wc.cell? ⟨gb102, 2, none⟩ = some (.int .i64 ((rd_T84 l0 x3_1).f2)) := (blk_cell BK102.out 2).trans rfl
                                      have hcz38_3 : wc.cell? ⟨gb102, 3, none⟩ = some (.int .i64 ((rd_T84 l0 x3_1).f3)) := (blk_cell BK102.out 3).trans rfl
                                      have hcz38_4 : wc.cell? ⟨gb102, 4, none⟩ = some (.int .i64 ((rd_T84 l0 x3_1).f4)) := (blk_cell BK102.out 4).trans rfl
                                      have hfz38_0 := blk_frozen BK102.out 0
                                      have hfz38_1 := blk_frozen BK102.out 1
                                      have hfz38_2 := blk_frozen BK102.out 2
                                      have hfz38_3 := blk_frozen BK102.out 3
                                      have hfz38_4 := blk_frozen BK102.out 4
                                      have p105 : 0 ≤ ((ji33) : Int) := of_decide_eq_true (by first | (with_reducible assumption) | assumption)
                                      have q105 : (ji33) < (l0.length : Int) := of_decide_eq_true (by first | (with_reducible assumption) | assumption)
                                      obtain ⟨ad105, e105, hx105_0, hx105_1, hx105_2, hx105_3, hx105_4⟩ := at_T84 HR0.out (ji33) p105 q105
                                      obtain rfl : ad101 = ad105 := (by injection e105)
                                      replace hx105_0 := (HB.out.cell (World.block_lt_of_cell? w _ hx105_0)).trans hx105_0
                                      replace hx105_1 := (HB.out.cell (World.block_lt_of_cell? w _ hx105_1)).trans hx105_1
                                      replace hx105_2 := (HB.out.cell (World.block_lt_of_cell? w _ hx105_2)).trans hx105_2
                                      replace hx105_3 := (HB.out.cell (World.block_lt_of_cell? w _ hx105_3)).trans hx105_3
                                      replace hx105_4 := (HB.out.cell (World.block_lt_of_cell? w _ hx105_4)).trans hx105_4
                                      replace p105 := eq_true p105
                                      replace q105 := eq_true q105
                                      have p106 : 0 ≤ ((ji33) : Int) := of_decide_eq_true (by first | (with_reducible assumption) | assumption)
                                      have q106 : (ji33) < (l0.length : Int) := of_decide_eq_true (by first | (with_reducible assumption) | assumption)
                                      obtain ⟨ad106, e106, hx106_0, hx106_1, hx106_2, hx106_3, hx106_4⟩ := at_T84 HR0.out (ji33) p106 q106
                                      obtain rfl : ad101 = ad106 := (by injection e106)
                                      replace hx106_0 := (HB.out.cell (World.block_lt_of_cell? w _ hx106_0)).trans hx106_0
                                      replace hx106_1 := (HB.out.cell (World.block_lt_of_cell? w _ hx106_1)).trans hx106_1
                                      replace hx106_2 := (HB.out.cell (World.block_lt_of_cell? w _ hx106_2)).trans hx106_2
                                      replace hx106_3 := (HB.out.cell (World.block_lt_of_cell? w _ hx106_3)).trans hx106_3
                                      replace hx106_4 := (HB.out.cell (World.block_lt_of_cell? w _ hx106_4)).trans hx106_4
                                      replace p106 := eq_true p106
                                      replace q106 := eq_true q106
                                      go_wp2
                                      repeat (go_quiet (fail); try go_wp2)
                                      go_roundg kj4
                                      case measure => have := HK1.out; have := HJ4.out; omega
                                      case rel => exact ⟨(wrap64 (x3_1 + 1)), (by first | rfl | (simp; done) | (simp [*]; done)), H', ⟨by have := HK1.out; have := HJ4.out; omega⟩, ⟨by repeat (first | (with_reducible first | exact HB.out | apply below_alloc | apply pw_below_drewN | apply below_drew1 | refine below_set ?_ GE102.out) | exact HB.out)⟩⟩
                                  · rw [if_neg c35] at H
                                    exact absurd H (by simp)
                                · rw [if_neg c34] at H
                                  exact absurd H (by simp)
                              · rw [if_neg c32] at H
                                have c32b0 : decide (0 < x3_1) = false := decide_eq_false c32
                                clear c32
                                have H' := Aside0.mk H
                                clear H
                                have hcz39_0 : wc.cell? ⟨gb102, 0, none⟩ = some (.int .u64 ((rd_T84 l0 x3_1).f0)) := (blk_cell BK102.out 0).trans rfl
                                have hcz39_1 : wc.cell? ⟨gb102, 1, none⟩ = some (.int .i64 ((rd_T84 l0 x3_1).f1)) := (blk_cell BK102.out 1).trans rfl
                                have hcz39_2 : wc.cell? ⟨gb102, 2, none⟩ = some (.int .i64 ((rd_T84 l0 x3_1).f2)) := (blk_cell BK102.out 2).trans rfl
                                have hcz39_3 : wc.cell? ⟨gb102, 3, none⟩ = some (.int .i64 ((rd_T84 l0 x3_1).f3)) := (blk_cell BK102.out 3).trans rfl
                                have hcz39_4 : wc.cell? ⟨gb102, 4, none⟩ = some (.int .i64 ((rd_T84 l0 x3_1).f4)) := (blk_cell BK102.out 4).trans rfl
                                have hfz39_0 := blk_frozen BK102.out 0
                                have hfz39_1 := blk_frozen BK102.out 1
                                have hfz39_2 := blk_frozen BK102.out 2
                                have hfz39_3 := blk_frozen BK102.out 3
                                have hfz39_4 := blk_frozen BK102.out 4
                                go_wp2
                                repeat (go_quiet (fail); try go_wp2)
                                go_roundg kj4
                                case measure => have := HK1.out; have := HJ4.out; omega
                                case rel => exact ⟨(wrap64 (x3_1 + 1)), (by first | rfl | (simp; done) | (simp [*]; done)), H', ⟨by have := HK1.out; have := HJ4.out; omega⟩, ⟨by repeat (first | (with_reducible first | exact HB.out | apply below_alloc | apply pw_below_drewN | apply below_drew1 | refine below_set ?_ GE102.out) | exact HB.out)⟩⟩
                            · rw [if_neg c31] at H
                              have c31b0 : (x3_1 == (wrap64 ((l0.length : Int) - 1))) = false := beq_eq_false_iff_ne.mpr c31
                              have c31b1 : (x3_1 != (wrap64 ((l0.length : Int) - 1))) = true := bne_iff_ne.mpr c31
                              obtain rfl := Option.some.inj H
                              have hcz40_0 : wc.cell? ⟨gb102, 0, none⟩ = some (.int .u64 ((rd_T84 l0 x3_1).f0)) := (blk_cell BK102.out 0).trans rfl
                              have hcz40_1 : wc.cell? ⟨gb102, 1, none⟩ = some (.int .i64 ((rd_T84 l0 x3_1).f1)) := (blk_cell BK102.out 1).trans rfl
                              have hcz40_2 : wc.cell? ⟨gb102, 2, none⟩ = some (.int .i64 ((rd_T84 l0 x3_1).f2)) := (blk_cell BK102.out 2).trans rfl
                              have hcz40_3 : wc.cell? ⟨gb102, 3, none⟩ = some (.int .i64 ((rd_T84 l0 x3_1).f3)) := (blk_cell BK102.out 3).trans rfl
                              have hcz40_4 : wc.cell? ⟨gb102, 4, none⟩ = some (.int .i64 ((rd_T84 l0 x3_1).f4)) := (blk_cell BK102.out 4).trans rfl
                              have hfz40_0 := blk_frozen BK102.out 0
                              have hfz40_1 := blk_frozen BK102.out 1
                              have hfz40_2 := blk_frozen BK102.out 2
                              have hfz40_3 := blk_frozen BK102.out 3
                              have hfz40_4 := blk_frozen BK102.out 4
                              go_wp2
                              repeat (go_quiet (fail); try go_wp2)
                              go_ret
                              exact ⟨by first | rfl | (simp [errW_none, errW_some] <;> rfl) | (simp [*, errW_none, errW_some] <;> rfl), by repeat (first | (with_reducible first | exact HB.out | apply below_alloc | apply pw_below_drewN | apply below_drew1 | refine below_set ?_ GE102.out) | exact HB.out)⟩
                        · rw [if_neg c21] at H
                          have c21b0 : (((rd_T84 l0 x3_1).f1) == 0) = false := beq_eq_false_iff_ne.mpr c21
                          have c21b1 : (((rd_T84 l0 x3_1).f1) != 0) = true := bne_iff_ne.mpr c21
                          by_cases c41 : ((rd_T84 l0 x3_1).f1) ≤ 32
                          · rw [if_pos c41] at H
                            have c41b0 : decide (((rd_T84 l0 x3_1).f1) ≤ 32) = true := decide_eq_true c41
                            clear c41
                            by_cases c42 : x3_1 > 0
                            · rw [if_pos c42] at H
                              have c42b0 : decide (0 < x3_1) = true := decide_eq_true c42
                              clear c42
                              obtain ⟨ji43, hji43⟩ : ∃ j_ : Int, (wrap64 (x3_1 - 1)) = j_ := ⟨_, rfl⟩
                              replace H : (if 0 ≤ (ji43) then (if (ji43) < (l0.length : Int) then (if ((rd_T84 l0 x3_1).f0) < (IntKind.u64.wrap (((rd_T84 l0 (ji43)).f0) + (IntKind.u64.wrap ((rd_T84 l0 (ji43)).f1)))) then (some false) else (spec_l6MapsOK.l0 kj4 l0 (wrap64 (x3_1 + 1)))) else (none)) else (none)) = some r := by first | (rw [hji43] at H; exact H) | (simp only [hji43] at H ⊢; exact H)
                              have hji43w : (IntKind.i64.wrap (x3_1 - 1)) = ji43 := (i64_w _).trans hji43
                              by_cases c44 : 0 ≤ (ji43)
                              · rw [if_pos c44] at H
                                have c44b0 : decide (0 ≤ (ji43)) = true := decide_eq_true c44
                                clear c44
                                by_cases c45 : (ji43) < (l0.length : Int)
                                · rw [if_pos c45] at H
                                  have c45b0 : decide ((ji43) < (l0.length : Int)) = true := decide_eq_true c45
                                  clear c45
                                  by_cases c46 : ((rd_T84 l0 x3_1).f0) < (IntKind.u64.wrap (((rd_T84 l0 (ji43)).f0) + (IntKind.u64.wrap ((rd_T84 l0 (ji43)).f1))))
                                  · rw [if_pos c46] at H
                                    have c46b0 : decide (((rd_T84 l0 x3_1).f0) < (IntKind.u64.wrap (((rd_T84 l0 (ji43)).f0) + (IntKind.u64.wrap ((rd_T84 l0 (ji43)).f1))))) = true := decide_eq_true c46
                                    clear c46
                                    obtain rfl := Option.some.inj H
                                    have hcz47_0 : wc.cell? ⟨gb102, 0, none⟩ = some (.int .u64 ((rd_T84 l0 x3_1).f0)) := (blk_cell BK102.out 0).trans rfl
                                    have hcz47_1 : wc.cell? ⟨gb102, 1, none⟩ = some (.int .i64 ((rd_T84 l0 x3_1).f1)) := (blk_cell BK102.out 1).trans rfl
                                    have hcz47_2 : wc.cell? ⟨gb102, 2, none⟩ = some (.int .i64 ((rd_T84 l0 x3_1).f2)) := (blk_cell BK102.out 2).trans rfl
                                    have hcz47_3 : wc.cell? ⟨gb102, 3, none⟩ = some (.int .i64 ((rd_T84 l0 x3_1).f3)) := (blk_cell BK102.out 3).trans rfl
                                    have hcz47_4 : wc.cell? ⟨gb102, 4, none⟩ = some (.int .i64 ((rd_T84 l0 x3_1).f4)) := (blk_cell BK102.out 4).trans rfl
                                    have hfz47_0 := blk_frozen BK102.out 0
                                    have hfz47_1 := blk_frozen BK102.out 1
                                    have hfz47_2 := blk_frozen BK102.out 2
                                    have hfz47_3 := blk_frozen BK102.out 3
                                    have hfz47_4 := blk_frozen BK102.out 4
                                    have p107 : 0 ≤ ((ji43) : Int) := of_decide_eq_true (by first | (with_reducible assumption) | assumption)
                                    have q107 : (ji43) < (l0.length : Int) := of_decide_eq_true (by first | (with_reducible assumption) | assumption)
                                    obtain ⟨ad107, e107, hx107_0, hx107_1, hx107_2, hx107_3, hx107_4⟩ := at_T84 HR0.out (ji43) p107 q107
                                    obtain rfl : ad101 = ad107 := (by injection e107)
                                    replace hx107_0 := (HB.out.cell (World.block_lt_of_cell? w _ hx107_0)).trans hx107_0
                                    replace hx107_1 := (HB.out.cell (World.block_lt_of_cell? w _ hx107_1)).trans hx107_1
                                    replace hx107_2 := (HB.out.cell (World.block_lt_of_cell? w _ hx107_2)).trans hx107_2
                                    replace hx107_3 := (HB.out.cell (World.block_lt_of_cell? w _ hx107_3)).trans hx107_3
                                    replace hx107_4 := (HB.out.cell (World.block_lt_of_cell? w _ hx107_4)).trans hx107_4
                                    replace p107 := eq_true p107
                                    replace q107 := eq_true q107
                                    have p108 : 0 ≤ ((ji43) : Int) := of_decide_eq_true (by first | (with_reducible assumption) | assumption)
                                    have q108 : (ji43) < (l0.length : Int) := of_decide_eq_true (by first | (with_reducible assumption) | assumption)
                                    obtain ⟨ad108, e108, hx108_0, hx108_1, hx108_2, hx108_3, hx108_4⟩ := at_T84 HR0.out (ji43) p108 q108
                                    obtain rfl : ad101 = ad108 := (by injection e108)
                                    replace hx108_0 := (HB.out.cell (World.block_lt_of_cell? w _ hx108_0)).trans hx108_0
                                    replace hx108_1 := (HB.out.cell (World.block_lt_of_cell? w _ hx108_1)).trans hx108_1
                                    replace hx108_2 := (HB.out.cell (World.block_lt_of_cell? w _ hx108_2)).trans hx108_2
                                    replace hx108_3 := (HB.out.cell (World.block_lt_of_cell? w _ hx108_3)).trans hx108_3
                                    replace hx108_4 := (HB.out.cell (World.block_lt_of_cell? w _ hx108_4)).trans hx108_4
                                    replace p108 := eq_true p108
                                    replace q108 := eq_true q108
                                    go_wp2
                                    repeat (go_quiet (fail); try go_wp2)
                                    go_ret
                                    exact ⟨by first | rfl | (simp [errW_none, errW_some] <;> rfl) | (simp only [← hji43]; first | rfl | (simp [errW_none, errW_some] <;> rfl)) | (simp [*, errW_none, errW_some] <;> rfl), by repeat (first | (with_reducible first | exact HB.out | apply below_alloc | apply pw_below_drewN | apply below_drew1 | refine below_set ?_ GE102.out) | exact HB.out)⟩
                                  · rw [if_neg c46] at H
                                    have c46b0 : decide (((rd_T84 l0 x3_1).f0) < (IntKind.u64.wrap (((rd_T84 l0 (ji43)).f0) + (IntKind.u64.wrap ((rd_T84 l0 (ji43)).f1))))) = false := decide_eq_false c46
                                    clear c46
                                    have H' := Aside0.mk H
                                    clear H
                                    have hcz48_0 : wc.cell? ⟨gb102, 0, none⟩ = some (.int .u64 ((rd_T84 l0 x3_1).f0)) := (blk_cell BK102.out 0).trans rfl
                                    have hcz48_1 : wc.cell? ⟨gb102, 1, none⟩ = some (.int .i64 ((rd_T84 l0 x3_1).f1)) := (blk_cell BK102.out 1).trans rfl
                                    have hcz48_2 : wc.cell? ⟨gb102, 2, none⟩ = some (.int .i64 ((rd_T84 l0 x3_1).f2)) := (blk_cell BK102.out 2).trans rfl
                                    have hcz48_3 : wc.cell? ⟨gb102, 3, none⟩ = some (.int .i64 ((rd_T84 l0 x3_1).f3)) := (blk_cell BK102.out 3).trans rfl
                                    have hcz48_4 : wc.cell? ⟨gb102, 4, none⟩ = some (.int .i64 ((rd_T84 l0 x3_1).f4)) := (blk_cell BK102.out 4).trans rfl
                                    have hfz48_0 := blk_frozen BK102.out 0
                                    have hfz48_1 := blk_frozen BK102.out 1
                                    have hfz48_2 := blk_frozen BK102.out 2
                                    have hfz48_3 := blk_frozen BK102.out 3
                                    have hfz48_4 := blk_frozen BK102.out 4
                                    have p107 : 0 ≤ ((ji43) : Int) := of_decide_eq_true (by first | (with_reducible assumption) | assumption)
                                    have q107 : (ji43) < (l0.length : Int) := of_decide_eq_true (by first | (with_reducible assumption) | assumption)
                                    obtain ⟨ad107, e107, hx107_0, hx107_1, hx107_2, hx107_3, hx107_4⟩ := at_T84 HR0.out (ji43) p107 q107
                                    obtain rfl : ad101 = ad107 := (by injection e107)
                                    replace hx107_0 := (HB.out.cell (World.block_lt_of_cell? w _ hx107_0)).trans hx107_0
                                    replace hx107_1 := (HB.out.cell (World.block_lt_of_cell? w _ hx107_1)).trans hx107_1
                                    replace hx107_2 := (HB.out.cell (World.block_lt_of_cell? w _ hx107_2)).trans hx107_2
                                    replace hx107_3 := (HB.out.cell (World.block_lt_of_cell? w _ hx107_3)).trans hx107_3
                                    replace hx107_4 := (HB.out.cell (World.block_lt_of_cell? w _ hx107_4)).trans hx107_4
                                    replace p107 := eq_true p107
                                    replace q107 := eq_true q107
                                    have p108 : 0 ≤ ((ji43) : Int) := of_decide_eq_true (by first | (with_reducible assumption) | assumption)
                                    have q108 : (ji43) < (l0.length : Int) := of_decide_eq_true (by first | (with_reducible assumption) | assumption)
                                    obtain ⟨ad108, e108, hx108_0, hx108_1, hx108_2, hx108_3, hx108_4⟩ := at_T84 HR0.out (ji43) p108 q108
                                    obtain rfl : ad101 = ad108 := (by injection e108)
                                    replace hx108_0 := (HB.out.cell (World.block_lt_of_cell? w _ hx108_0)).trans hx108_0
                                    replace hx108_1 := (HB.out.cell (World.block_lt_of_cell? w _ hx108_1)).trans hx108_1
                                    replace hx108_2 := (HB.out.cell (World.block_lt_of_cell? w _ hx108_2)).trans hx108_2
                                    replace hx108_3 := (HB.out.cell (World.block_lt_of_cell? w _ hx108_3)).trans hx108_3
                                    replace hx108_4 := (HB.out.cell (World.block_lt_of_cell? w _ hx108_4)).trans hx108_4
                                    replace p108 := eq_true p108
                                    replace q108 := eq_true q108
                                    go_wp2
                                    repeat (go_quiet (fail); try go_wp2)
                                    go_roundg kj4
                                    case measure => have := HK1.out; have := HJ4.out; omega
                                    case rel => exact ⟨(wrap64 (x3_1 + 1)), (by first | rfl | (simp; done) | (simp [*]; done)), H', ⟨by have := HK1.out; have := HJ4.out; omega⟩, ⟨by repeat (first | (with_reducible first | exact HB.out | apply below_alloc | apply pw_below_drewN | apply below_drew1 | refine below_set ?_ GE102.out) | exact HB.out)⟩⟩
                                · rw [if_neg c45] at H
                                  exact absurd H (by simp)
                              · rw [if_neg c44] at H
                                exact absurd H (by simp)
                            · rw [if_neg c42] at H
                              have c42b0 : decide (0 < x3_1) = false := decide_eq_false c42
                              clear c42
                              have H' := Aside0.mk H
                              clear H
                              have hcz49_0 : wc.cell? ⟨gb102, 0, none⟩ = some (.int .u64 ((rd_T84 l0 x3_1).f0)) := (blk_cell BK102.out 0).trans rfl
                              have hcz49_1 : wc.cell? ⟨gb102, 1, none⟩ = some (.int .i64 ((rd_T84 l0 x3_1).f1)) := (blk_cell BK102.out 1).trans rfl
                              have hcz49_2 : wc.cell? ⟨gb102, 2, none⟩ = some (.int .i64 ((rd_T84 l0 x3_1).f2)) := (blk_cell BK102.out 2).trans rfl
                              have hcz49_3 : wc.cell? ⟨gb102, 3, none⟩ = some (.int .i64 ((rd_T84 l0 x3_1).f3)) := (blk_cell BK102.out 3).trans rfl
                              have hcz49_4 : wc.cell? ⟨gb102, 4, none⟩ = some (.int .i64 ((rd_T84 l0 x3_1).f4)) := (blk_cell BK102.out 4).trans rfl
                              have hfz49_0 := blk_frozen BK102.out 0
                              have hfz49_1 := blk_frozen BK102.out 1
                              have hfz49_2 := blk_frozen BK102.out 2
                              have hfz49_3 := blk_frozen BK102.out 3
                              have hfz49_4 := blk_frozen BK102.out 4
                              go_wp2
                              repeat (go_quiet (fail); try go_wp2)
                              go_roundg kj4
                              case measure => have := HK1.out; have := HJ4.out; omega
                              case rel => exact ⟨(wrap64 (x3_1 + 1)), (by first | rfl | (simp; done) | (simp [*]; done)), H', ⟨by have := HK1.out; have := HJ4.out; omega⟩, ⟨by repeat (first | (with_reducible first | exact HB.out | apply below_alloc | apply pw_below_drewN | apply below_drew1 | refine below_set ?_ GE102.out) | exact HB.out)⟩⟩
                          · rw [if_neg c41] at H
                            have c41b0 : decide (((rd_T84 l0 x3_1).f1) ≤ 32) = false := decide_eq_false c41
                            clear c41
                            obtain rfl := Option.some.inj H
                            have hcz50_0 : wc.cell? ⟨gb102, 0, none⟩ = some (.int .u64 ((rd_T84 l0 x3_1).f0)) := (blk_cell BK102.out 0).trans rfl
                            have hcz50_1 : wc.cell? ⟨gb102, 1, none⟩ = some (.int .i64 ((rd_T84 l0 x3_1).f1)) := (blk_cell BK102.out 1).trans rfl
                            have hcz50_2 : wc.cell? ⟨gb102, 2, none⟩ = some (.int .i64 ((rd_T84 l0 x3_1).f2)) := (blk_cell BK102.out 2).trans rfl
                            have hcz50_3 : wc.cell? ⟨gb102, 3, none⟩ = some (.int .i64 ((rd_T84 l0 x3_1).f3)) := (blk_cell BK102.out 3).trans rfl
                            have hcz50_4 : wc.cell? ⟨gb102, 4, none⟩ = some (.int .i64 ((rd_T84 l0 x3_1).f4)) := (blk_cell BK102.out 4).trans rfl
                            have hfz50_0 := blk_frozen BK102.out 0
                            have hfz50_1 := blk_frozen BK102.out 1
                            have hfz50_2 := blk_frozen BK102.out 2
                            have hfz50_3 := blk_frozen BK102.out 3
                            have hfz50_4 := blk_frozen BK102.out 4
                            go_wp2
                            repeat (go_quiet (fail); try go_wp2)
                            go_ret
                            exact ⟨by first | rfl | (simp [errW_none, errW_some] <;> rfl) | (simp [*, errW_none, errW_some] <;> rfl), by repeat (first | (with_reducible first | exact HB.out | apply below_alloc | apply pw_below_drewN | apply below_drew1 | refine below_set ?_ GE102.out) | exact HB.out)⟩
                      · rw [if_neg c20] at H
                        have c20b0 : (((rd_T84 l0 x3_1).f2) == 1) = false := beq_eq_false_iff_ne.mpr c20
                        have c20b1 : (((rd_T84 l0 x3_1).f2) != 1) = true := bne_iff_ne.mpr c20
                        by_cases c51 : ((rd_T84 l0 x3_1).f1) ≤ 32
                        · rw [if_pos c51] at H
                          have c51b0 : decide (((rd_T84 l0 x3_1).f1) ≤ 32) = true := decide_eq_true c51
                          clear c51
                          by_cases c52 : x3_1 > 0
                          · rw [if_pos c52] at H
                            have c52b0 : decide (0 < x3_1) = true := decide_eq_true c52
                            clear c52
                            obtain ⟨ji53, hji53⟩ : ∃ j_ : Int, (wrap64 (x3_1 - 1)) = j_ := ⟨_, rfl⟩
                            replace H : (if 0 ≤ (ji53) then (if (ji53) < (l0.length : Int) then (if ((rd_T84 l0 x3_1).f0) < (IntKind.u64.wrap (((rd_T84 l0 (ji53)).f0) + (IntKind.u64.wrap ((rd_T84 l0 (ji53)).f1)))) then (some false) else (spec_l6MapsOK.l0 kj4 l0 (wrap64 (x3_1 + 1)))) else (none)) else (none)) = some r := by first | (rw [hji53] at H; exact H) | (simp only [hji53] at H ⊢; exact H)
                            have hji53w : (IntKind.i64.wrap (x3_1 - 1)) = ji53 := (i64_w _).trans hji53
                            by_cases c54 : 0 ≤ (ji53)
                            · rw [if_pos c54] at H
                              have c54b0 : decide (0 ≤ (ji53)) = true := decide_eq_true c54
                              clear c54
                              by_cases c55 : (ji53) < (l0.length : Int)
                              · rw [if_pos c55] at H
                                have c55b0 : decide ((ji53) < (l0.length : Int)) = true := decide_eq_true c55
                                clear c55
                                by_cases c56 : ((rd_T84 l0 x3_1).f0) < (IntKind.u64.wrap (((rd_T84 l0 (ji53)).f0) + (IntKind.u64.wrap ((rd_T84 l0 (ji53)).f1))))
                                · rw [if_pos c56] at H
                                  have c56b0 : decide (((rd_T84 l0 x3_1).f0) < (IntKind.u64.wrap (((rd_T84 l0 (ji53)).f0) + (IntKind.u64.wrap ((rd_T84 l0 (ji53)).f1))))) = true := decide_eq_true c56
                                  clear c56
                                  obtain rfl := Option.some.inj H
                                  have hcz57_0 : wc.cell? ⟨gb102, 0, none⟩ = some (.int .u64 ((rd_T84 l0 x3_1).f0)) := (blk_cell BK102.out 0).trans rfl
                                  have hcz57_1 : wc.cell? ⟨gb102, 1, none⟩ = some (.int .i64 ((rd_T84 l0 x3_1).f1)) := (blk_cell BK102.out 1).trans rfl
                                  have hcz57_2 : wc.cell? ⟨gb102, 2, none⟩ = some (.int .i64 ((rd_T84 l0 x3_1).f2)) := (blk_cell BK102.out 2).trans rfl
                                  have hcz57_3 : wc.cell? ⟨gb102, 3, none⟩ = some (.int .i64 ((rd_T84 l0 x3_1).f3)) := (blk_cell BK102.out 3).trans rfl
                                  have hcz57_4 : wc.cell? ⟨gb102, 4, none⟩ = some (.int .i64 ((rd_T84 l0 x3_1).f4)) := (blk_cell BK102.out 4).trans rfl
                                  have hfz57_0 := blk_frozen BK102.out 0
                                  have hfz57_1 := blk_frozen BK102.out 1
                                  have hfz57_2 := blk_frozen BK102.out 2
                                  have hfz57_3 := blk_frozen BK102.out 3
                                  have hfz57_4 := blk_frozen BK102.out 4
                                  have p109 : 0 ≤ ((ji53) : Int) := of_decide_eq_true (by first | (with_reducible assumption) | assumption)
                                  have q109 : (ji53) < (l0.length : Int) := of_decide_eq_true (by first | (with_reducible assumption) | assumption)
                                  obtain ⟨ad109, e109, hx109_0, hx109_1, hx109_2, hx109_3, hx109_4⟩ := at_T84 HR0.out (ji53) p109 q109
                                  obtain rfl : ad101 = ad109 := (by injection e109)
                                  replace hx109_0 := (HB.out.cell (World.block_lt_of_cell? w _ hx109_0)).trans hx109_0
                                  replace hx109_1 := (HB.out.cell (World.block_lt_of_cell? w _ hx109_1)).trans hx109_1
                                  replace hx109_2 := (HB.out.cell (World.block_lt_of_cell? w _ hx109_2)).trans hx109_2
                                  replace hx109_3 := (HB.out.cell (World.block_lt_of_cell? w _ hx109_3)).trans hx109_3
                                  replace hx109_4 := (HB.out.cell (World.block_lt_of_cell? w _ hx109_4)).trans hx109_4
                                  replace p109 := eq_true p109
                                  replace q109 := eq_true q109
                                  have p110 : 0 ≤ ((ji53) : Int) := of_decide_eq_true (by first | (with_reducible assumption) | assumption)
                                  have q110 : (ji53) < (l0.length : Int) := of_decide_eq_true (by first | (with_reducible assumption) | assumption)
                                  obtain ⟨ad110, e110, hx110_0, hx110_1, hx110_2, hx110_3, hx110_4⟩ := at_T84 HR0.out (ji53) p110 q110
                                  obtain rfl : ad101 = ad110 := (by injection e110)
                                  replace hx110_0 := (HB.out.cell (World.block_lt_of_cell? w _ hx110_0)).trans hx110_0
                                  replace hx110_1 := (HB.out.cell (World.block_lt_of_cell? w _ hx110_1)).trans hx110_1
                                  replace hx110_2 := (HB.out.cell (World.block_lt_of_cell? w _ hx110_2)).trans hx110_2
                                  replace hx110_3 := (HB.out.cell (World.block_lt_of_cell? w _ hx110_3)).trans hx110_3
                                  replace hx110_4 := (HB.out.cell (World.block_lt_of_cell? w _ hx110_4)).trans hx110_4
                                  replace p110 := eq_true p110
                                  replace q110 := eq_true q110
                                  go_wp2
                                  repeat (go_quiet (fail); try go_wp2)
                                  go_ret
                                  exact ⟨by first | rfl | (simp [errW_none, errW_some] <;> rfl) | (simp only [← hji53]; first | rfl | (simp [errW_none, errW_some] <;> rfl)) | (simp [*, errW_none, errW_some] <;> rfl), by repeat (first | (with_reducible first | exact HB.out | apply below_alloc | apply pw_below_drewN | apply below_drew1 | refine below_set ?_ GE102.out) | exact HB.out)⟩
                                · rw [if_neg c56] at H
                                  have c56b0 : decide (((rd_T84 l0 x3_1).f0) < (IntKind.u64.wrap (((rd_T84 l0 (ji53)).f0) + (IntKind.u64.wrap ((rd_T84 l0 (ji53)).f1))))) = false := decide_eq_false c56
                                  clear c56
                                  have H' := Aside0.mk H
                                  clear H
                                  have hcz58_0 : wc.cell? ⟨gb102, 0, none⟩ = some (.int .u64 ((rd_T84 l0 x3_1).f0)) := (blk_cell BK102.out 0).trans rfl
                                  have hcz58_1 : wc.cell? ⟨gb102, 1, none⟩ = some (.int .i64 ((rd_T84 l0 x3_1).f1)) := (blk_cell BK102.out 1).trans rfl
                                  have hcz58_2 : wc.cell? ⟨gb102, 2, none⟩ = some (.int .i64 ((rd_T84 l0 x3_1).f2)) := (blk_cell BK102.out 2).trans rfl
                                  have hcz58_3 : wc.cell? ⟨gb102, 3, none⟩ = some (.int .i64 ((rd_T84 l0 x3_1).f3)) := (blk_cell BK102.out 3).trans rfl
                                  have hcz58_4 : wc.cell? ⟨gb102, 4, none⟩ = some (.int .i64 ((rd_T84 l0 x3_1).f4)) := (blk_cell BK102.out 4).trans rfl
                                  have hfz58_0 := blk_frozen BK102.out 0
                                  have hfz58_1 := blk_frozen BK102.out 1
                                  have hfz58_2 := blk_frozen BK102.out 2
                                  have hfz58_3 := blk_frozen BK102.out 3
                                  have hfz58_4 := blk_frozen BK102.out 4
                                  have p109 : 0 ≤ ((ji53) : Int) := of_decide_eq_true (by first | (with_reducible assumption) | assumption)
                                  have q109 : (ji53) < (l0.length : Int) := of_decide_eq_true (by first | (with_reducible assumption) | assumption)
                                  obtain ⟨ad109, e109, hx109_0, hx109_1, hx109_2, hx109_3, hx109_4⟩ := at_T84 HR0.out (ji53) p109 q109
                                  obtain rfl : ad101 = ad109 := (by injection e109)
                                  replace hx109_0 := (HB.out.cell (World.block_lt_of_cell? w _ hx109_0)).trans hx109_0
                                  replace hx109_1 := (HB.out.cell (World.block_lt_of_cell? w _ hx109_1)).trans hx109_1
                                  replace hx109_2 := (HB.out.cell (World.block_lt_of_cell? w _ hx109_2)).trans hx109_2
                                  replace hx109_3 := (HB.out.cell (World.block_lt_of_cell? w _ hx109_3)).trans hx109_3
                                  replace hx109_4 := (HB.out.cell (World.block_lt_of_cell? w _ hx109_4)).trans hx109_4
                                  replace p109 := eq_true p109
                                  replace q109 := eq_true q109
                                  have p110 : 0 ≤ ((ji53) : Int) := of_decide_eq_true (by first | (with_reducible assumption) | assumption)
                                  have q110 : (ji53) < (l0.length : Int) := of_decide_eq_true (by first | (with_reducible assumption) | assumption)
                                  obtain ⟨ad110, e110, hx110_0, hx110_1, hx110_2, hx110_3, hx110_4⟩ := at_T84 HR0.out (ji53) p110 q110
                                  obtain rfl : ad101 = ad110 := (by injection e110)
                                  replace hx110_0 := (HB.out.cell (World.block_lt_of_cell? w _ hx110_0)).trans hx110_0
                                  replace hx110_1 := (HB.out.cell (World.block_lt_of_cell? w _ hx110_1)).trans hx110_1
                                  replace hx110_2 := (HB.out.cell (World.block_lt_of_cell? w _ hx110_2)).trans hx110_2
                                  replace hx110_3 := (HB.out.cell (World.block_lt_of_cell? w _ hx110_3)).trans hx110_3
                                  replace hx110_4 := (HB.out.cell (World.block_lt_of_cell? w _ hx110_4)).trans hx110_4
                                  replace p110 := eq_true p110
                                  replace q110 := eq_true q110
                                  go_wp2
                                  repeat (go_quiet (fail); try go_wp2)
                                  go_roundg kj4
                                  case measure => have := HK1.out; have := HJ4.out; omega
                                  case rel => exact ⟨(wrap64 (x3_1 + 1)), (by first | rfl | (simp; done) | (simp [*]; done)), H', ⟨by have := HK1.out; have := HJ4.out; omega⟩, ⟨by repeat (first | (with_reducible first | exact HB.out | apply below_alloc | apply pw_below_drewN | apply below_drew1 | refine below_set ?_ GE102.out) | exact HB.out)⟩⟩
                              · rw [if_neg c55] at H
                                exact absurd H (by simp)
                            · rw [if_neg c54] at H
                              exact absurd H (by simp)
                          · rw [if_neg c52] at H
                            have c52b0 : decide (0 < x3_1) = false := decide_eq_false c52
                            clear c52
                            have H' := Aside0.mk H
                            clear H
                            have hcz59_0 : wc.cell? ⟨gb102, 0, none⟩ = some (.int .u64 ((rd_T84 l0 x3_1).f0)) := (blk_cell BK102.out 0).trans rfl
                            have hcz59_1 : wc.cell? ⟨gb102, 1, none⟩ = some (.int .i64 ((rd_T84 l0 x3_1).f1)) := (blk_cell BK102.out 1).trans rfl
                            have hcz59_2 : wc.cell? ⟨gb102, 2, none⟩ = some (.int .i64 ((rd_T84 l0 x3_1).f2)) := (blk_cell BK102.out 2).trans rfl
                            have hcz59_3 : wc.cell? ⟨gb102, 3, none⟩ = some (.int .i64 ((rd_T84 l0 x3_1).f3)) := (blk_cell BK102.out 3).trans rfl
                            have hcz59_4 : wc.cell? ⟨gb102, 4, none⟩ = some (.int .i64 ((rd_T84 l0 x3_1).f4)) := (blk_cell BK102.out 4).trans rfl
                            have hfz59_0 := blk_frozen BK102.out 0
                            have hfz59_1 := blk_frozen BK102.out 1
                            have hfz59_2 := blk_frozen BK102.out 2
                            have hfz59_3 := blk_frozen BK102.out 3
                            have hfz59_4 := blk_frozen BK102.out 4
                            go_wp2
                            repeat (go_quiet (fail); try go_wp2)
                            go_roundg kj4
                            case measure => have := HK1.out; have := HJ4.out; omega
                            case rel => exact ⟨(wrap64 (x3_1 + 1)), (by first | rfl | (simp; done) | (simp [*]; done)), H', ⟨by have := HK1.out; have := HJ4.out; omega⟩, ⟨by repeat (first | (with_reducible first | exact HB.out | apply below_alloc | apply pw_below_drewN | apply below_drew1 | refine below_set ?_ GE102.out) | exact HB.out)⟩⟩
                        · rw [if_neg c51] at H
                          have c51b0 : decide (((rd_T84 l0 x3_1).f1) ≤ 32) = false := decide_eq_false c51
                          clear c51
                          obtain rfl := Option.some.inj H
                          have hcz60_0 : wc.cell? ⟨gb102, 0, none⟩ = some (.int .u64 ((rd_T84 l0 x3_1).f0)) := (blk_cell BK102.out 0).trans rfl
                          have hcz60_1 : wc.cell? ⟨gb102, 1, none⟩ = some (.int .i64 ((rd_T84 l0 x3_1).f1)) := (blk_cell BK102.out 1).trans rfl
                          have hcz60_2 : wc.cell? ⟨gb102, 2, none⟩ = some (.int .i64 ((rd_T84 l0 x3_1).f2)) := (blk_cell BK102.out 2).trans rfl
                          have hcz60_3 : wc.cell? ⟨gb102, 3, none⟩ = some (.int .i64 ((rd_T84 l0 x3_1).f3)) := (blk_cell BK102.out 3).trans rfl
                          have hcz60_4 : wc.cell? ⟨gb102, 4, none⟩ = some (.int .i64 ((rd_T84 l0 x3_1).f4)) := (blk_cell BK102.out 4).trans rfl
                          have hfz60_0 := blk_frozen BK102.out 0
                          have hfz60_1 := blk_frozen BK102.out 1
                          have hfz60_2 := blk_frozen BK102.out 2
                          have hfz60_3 := blk_frozen BK102.out 3
                          have hfz60_4 := blk_frozen BK102.out 4
                          go_wp2
                          repeat (go_quiet (fail); try go_wp2)
                          go_ret
                          exact ⟨by first | rfl | (simp [errW_none, errW_some] <;> rfl) | (simp [*, errW_none, errW_some] <;> rfl), by repeat (first | (with_reducible first | exact HB.out | apply below_alloc | apply pw_below_drewN | apply below_drew1 | refine below_set ?_ GE102.out) | exact HB.out)⟩
                    · rw [if_neg c19] at H
                      have c19b0 : decide (1 ≤ ((rd_T84 l0 x3_1).f1)) = false := decide_eq_false c19
                      clear c19
                      by_cases c61 : ((rd_T84 l0 x3_1).f2) = 1
                      · rw [if_pos c61] at H
                        have c61b0 : (((rd_T84 l0 x3_1).f2) == 1) = true := beq_iff_eq.mpr c61
                        have c61b1 : (((rd_T84 l0 x3_1).f2) != 1) = false := bne_eq_false_iff_eq.mpr c61
                        clear c61
                        by_cases c62 : ((rd_T84 l0 x3_1).f1) = 0
                        · rw [if_pos c62] at H
                          have c62b0 : (((rd_T84 l0 x3_1).f1) == 0) = true := beq_iff_eq.mpr c62
                          have c62b1 : (((rd_T84 l0 x3_1).f1) != 0) = false := bne_eq_false_iff_eq.mpr c62
                          clear c62
                          by_cases c63 : (x3_1 = (wrap64 ((l0.length : Int) - 1)))
                          · rw [if_pos c63] at H
                            have c63b0 : (x3_1 == (wrap64 ((l0.length : Int) - 1))) = true := beq_iff_eq.mpr c63
                            have c63b1 : (x3_1 != (wrap64 ((l0.length : Int) - 1))) = false := bne_eq_false_iff_eq.mpr c63
                            clear c63
                            by_cases c64 : x3_1 > 0
                            · rw [if_pos c64] at H
                              have c64b0 : decide (0 < x3_1) = true := decide_eq_true c64
                              clear c64
                              obtain ⟨ji65, hji65⟩ : ∃ j_ : Int, (wrap64 (x3_1 - 1)) = j_ := ⟨_, rfl⟩
                              replace H : (if 0 ≤ (ji65) then (if (ji65) < (l0.length : Int) then (if ((rd_T84 l0 x3_1).f0) < (IntKind.u64.wrap (((rd_T84 l0 (ji65)).f0) + (IntKind.u64.wrap ((rd_T84 l0 (ji65)).f1)))) then (some false) else (spec_l6MapsOK.l0 kj4 l0 (wrap64 (x3_1 + 1)))) else (none)) else (none)) = some r := by first | (rw [hji65] at H; exact H) | (simp only [hji65] at H ⊢; exact H)
                              have hji65w : (IntKind.i64.wrap (x3_1 - 1)) = ji65 := (i64_w _).trans hji65
                              by_cases c66 : 0 ≤ (ji65)
                              · rw [if_pos c66] at H
                                have c66b0 : decide (0 ≤ (ji65)) = true := decide_eq_true c66
                                clear c66
                                by_cases c67 : (ji65) < (l0.length : Int)
                                · rw [if_pos c67] at H
                                  have c67b0 : decide ((ji65) < (l0.length : Int)) = true := decide_eq_true c67
                                  clear c67
                                  by_cases c68 : ((rd_T84 l0 x3_1).f0) < (IntKind.u64.wrap (((rd_T84 l0 (ji65)).f0) + (IntKind.u64.wrap ((rd_T84 l0 (ji65)).f1))))
                                  · rw [if_pos c68] at H
                                    have c68b0 : decide (((rd_T84 l0 x3_1).f0) < (IntKind.u64.wrap (((rd_T84 l0 (ji65)).f0) + (IntKind.u64.wrap ((rd_T84 l0 (ji65)).f1))))) = true := decide_eq_true c68
                                    clear c68
                                    obtain rfl := Option.some.inj H
                                    have hcz69_0 : wc.cell? ⟨gb102, 0, none⟩ = some (.int .u64 ((rd_T84 l0 x3_1).f0)) := (blk_cell BK102.out 0).trans rfl
                                    have hcz69_1 : wc.cell? ⟨gb102, 1, none⟩ = some (.int .i64 ((rd_T84 l0 x3_1).f1)) := (blk_cell BK102.out 1).trans rfl
                                    have hcz69_2 : wc.cell? ⟨gb102, 2, none⟩ = some (.int .i64 ((rd_T84 l0 x3_1).f2)) := (blk_cell BK102.out 2).trans rfl
                                    have hcz69_3 : wc.cell? ⟨gb102, 3, none⟩ = some (.int .i64 ((rd_T84 l0 x3_1).f3)) := (blk_cell BK102.out 3).trans rfl
                                    have hcz69_4 : wc.cell? ⟨gb102, 4, none⟩ = some (.int .i64 ((rd_T84 l0 x3_1).f4)) := (blk_cell BK102.out 4).trans rfl
                                    have hfz69_0 := blk_frozen BK102.out 0
                                    have hfz69_1 := blk_frozen BK102.out 1
                                    have hfz69_2 := blk_frozen BK102.out 2
                                    have hfz69_3 := blk_frozen BK102.out 3
                                    have hfz69_4 := blk_frozen BK102.out 4
                                    have p111 : 0 ≤ ((ji65) : Int) := of_decide_eq_true (by first | (with_reducible assumption) | assumption)
                                    have q111 : (ji65) < (l0.length : Int) := of_decide_eq_true (by first | (with_reducible assumption) | assumption)
                                    obtain ⟨ad111, e111, hx111_0, hx111_1, hx111_2, hx111_3, hx111_4⟩ := at_T84 HR0.out (ji65) p111 q111
                                    obtain rfl : ad101 = ad111 := (by injection e111)
                                    replace hx111_0 := (HB.out.cell (World.block_lt_of_cell? w _ hx111_0)).trans hx111_0
                                    replace hx111_1 := (HB.out.cell (World.block_lt_of_cell? w _ hx111_1)).trans hx111_1
                                    replace hx111_2 := (HB.out.cell (World.block_lt_of_cell? w _ hx111_2)).trans hx111_2
                                    replace hx111_3 := (HB.out.cell (World.block_lt_of_cell? w _ hx111_3)).trans hx111_3
                                    replace hx111_4 := (HB.out.cell (World.block_lt_of_cell? w _ hx111_4)).trans hx111_4
                                    replace p111 := eq_true p111
                                    replace q111 := eq_true q111
                                    have p112 : 0 ≤ ((ji65) : Int) := of_decide_eq_true (by first | (with_reducible assumption) | assumption)
                                    have q112 : (ji65) < (l0.length : Int) := of_decide_eq_true (by first | (with_reducible assumption) | assumption)
                                    obtain ⟨ad112, e112, hx112_0, hx112_1, hx112_2, hx112_3, hx112_4⟩ := at_T84 HR0.out (ji65) p112 q112
                                    obtain rfl : ad101 = ad112 := (by injection e112)
                                    replace hx112_0 := (HB.out.cell (World.block_lt_of_cell? w _ hx112_0)).trans hx112_0
                                    replace hx112_1 := (HB.out.cell (World.block_lt_of_cell? w _ hx112_1)).trans hx112_1
                                    replace hx112_2 := (HB.out.cell (World.block_lt_of_cell? w _ hx112_2)).trans hx112_2
                                    replace hx112_3 := (HB.out.cell (World.block_lt_of_cell? w _ hx112_3)).trans hx112_3
                                    replace hx112_4 := (HB.out.cell (World.block_lt_of_cell? w _ hx112_4)).trans hx112_4
                                    replace p112 := eq_true p112
                                    replace q112 := eq_true q112
                                    go_wp2
                                    repeat (go_quiet (fail); try go_wp2)
                                    go_ret
                                    exact ⟨by first | rfl | (simp [errW_none, errW_some] <;> rfl) | (simp only [← hji65]; first | rfl | (simp [errW_none, errW_some] <;> rfl)) | (simp [*, errW_none, errW_some] <;> rfl), by repeat (first | (with_reducible first | exact HB.out | apply below_alloc | apply pw_below_drewN | apply below_drew1 | refine below_set ?_ GE102.out) | exact HB.out)⟩
                                  · rw [if_neg c68] at H
                                    have c68b0 : decide (((rd_T84 l0 x3_1).f0) < (IntKind.u64.wrap (((rd_T84 l0 (ji65)).f0) + (IntKind.u64.wrap ((rd_T84 l0 (ji65)).f1))))) = false := decide_eq_false c68
                                    clear c68
                                    have H' := Aside0.mk H
                                    clear H
                                    have hcz70_0 : wc.cell? ⟨gb102, 0, none⟩ = some (.int .u64 ((rd_T84 l0 x3_1).f0)) := (blk_cell BK102.out 0).trans rfl
                                    have hcz70_1 : wc.cell? ⟨gb102, 1, none⟩ = some (.int .i64 ((rd_T84 l0 x3_1).f1)) := (blk_cell BK102.out 1).trans rfl
                                    have hcz70_2 : wc.cell? ⟨gb102, 2, none⟩ = some (.int .i64 ((rd_T84 l0 x3_1).f2)) := (blk_cell BK102.out 2).trans rfl
                                    have hcz70_3 : wc.cell? ⟨gb102, 3, none⟩ = some (.int .i64 ((rd_T84 l0 x3_1).f3)) := (blk_cell BK102.out 3).trans rfl
                                    have hcz70_4 : wc.cell? ⟨gb102, 4, none⟩ = some (.int .i64 ((rd_T84 l0 x3_1).f4)) := (blk_cell BK102.out 4).trans rfl
                                    have hfz70_0 := blk_frozen BK102.out 0
                                    have hfz70_1 := blk_frozen BK102.out 1
                                    have hfz70_2 := blk_frozen BK102.out 2
                                    have hfz70_3 := blk_frozen BK102.out 3
                                    have hfz70_4 := blk_frozen BK102.out 4
                                    have p111 : 0 ≤ ((ji65) : Int) := of_decide_eq_true (by first | (with_reducible assumption) | assumption)
                                    have q111 : (ji65) < (l0.length : Int) := of_decide_eq_true (by first | (with_reducible assumption) | assumption)
                                    obtain ⟨ad111, e111, hx111_0, hx111_1, hx111_2, hx111_3, hx111_4⟩ := at_T84 HR0.out (ji65) p111 q111
                                    obtain rfl : ad101 = ad111 := (by injection e111)
                                    replace hx111_0 := (HB.out.cell (World.block_lt_of_cell? w _ hx111_0)).trans hx111_0
                                    replace hx111_1 := (HB.out.cell (World.block_lt_of_cell? w _ hx111_1)).trans hx111_1
                                    replace hx111_2 := (HB.out.cell (World.block_lt_of_cell? w _ hx111_2)).trans hx111_2
                                    replace hx111_3 := (HB.out.cell (World.block_lt_of_cell? w _ hx111_3)).trans hx111_3
                                    replace hx111_4 := (HB.out.cell (World.block_lt_of_cell? w _ hx111_4)).trans hx111_4
                                    replace p111 := eq_true p111
                                    replace q111 := eq_true q111
                                    have p112 : 0 ≤ ((ji65) : Int) := of_decide_eq_true (by first | (with_reducible assumption) | assumption)
                                    have q112 : (ji65) < (l0.length : Int) := of_decide_eq_true (by first | (with_reducible assumption) | assumption)
                                    obtain ⟨ad112, e112, hx112_0, hx112_1, hx112_2, hx112_3, hx112_4⟩ := at_T84 HR0.out (ji65) p112 q112
                                    obtain rfl : ad101 = ad112 := (by injection e112)
                                    replace hx112_0 := (HB.out.cell (World.block_lt_of_cell? w _ hx112_0)).trans hx112_0
                                    replace hx112_1 := (HB.out.cell (World.block_lt_of_cell? w _ hx112_1)).trans hx112_1
                                    replace hx112_2 := (HB.out.cell (World.block_lt_of_cell? w _ hx112_2)).trans hx112_2
                                    replace hx112_3 := (HB.out.cell (World.block_lt_of_cell? w _ hx112_3)).trans hx112_3
                                    replace hx112_4 := (HB.out.cell (World.block_lt_of_cell? w _ hx112_4)).trans hx112_4
                                    replace p112 := eq_true p112
                                    replace q112 := eq_true q112
                                    go_wp2
                                    repeat (go_quiet (fail); try go_wp2)
                                    go_roundg kj4
                                    case measure => have := HK1.out; have := HJ4.out; omega
                                    case rel => exact ⟨(wrap64 (x3_1 + 1)), (by first | rfl | (simp; done) | (simp [*]; done)), H', ⟨by have := HK1.out; have := HJ4.out; omega⟩, ⟨by repeat (first | (with_reducible first | exact HB.out | apply below_alloc | apply pw_below_drewN | apply below_drew1 | refine below_set ?_ GE102.out) | exact HB.out)⟩⟩
                                · rw [if_neg c67] at H
                                  exact absurd H (by simp)
                              · rw [if_neg c66] at H
                                exact absurd H (by simp)
                            · rw [if_neg c64] at H
                              have c64b0 : decide (0 < x3_1) = false := decide_eq_false c64
                              clear c64
                              have H' := Aside0.mk H
                              clear H
                              have hcz71_0 : wc.cell? ⟨gb102, 0, none⟩ = some (.int .u64 ((rd_T84 l0 x3_1).f0)) := (blk_cell BK102.out 0).trans rfl
                              have hcz71_1 : wc.cell? ⟨gb102, 1, none⟩ = some (.int .i64 ((rd_T84 l0 x3_1).f1)) := (blk_cell BK102.out 1).trans rfl
                              have hcz71_2 : wc.cell? ⟨gb102, 2, none⟩ = some (.int .i64 ((rd_T84 l0 x3_1).f2)) := (blk_cell BK102.out 2).trans rfl
                              have hcz71_3 : wc.cell? ⟨gb102, 3, none⟩ = some (.int .i64 ((rd_T84 l0 x3_1).f3)) := (blk_cell BK102.out 3).trans rfl
                              have hcz71_4 : wc.cell? ⟨gb102, 4, none⟩ = some (.int .i64 ((rd_T84 l0 x3_1).f4)) := (blk_cell BK102.out 4).trans rfl
                              have hfz71_0 := blk_frozen BK102.out 0
                              have hfz71_1 := blk_frozen BK102.out 1
                              have hfz71_2 := blk_frozen BK102.out 2
                              have hfz71_3 := blk_frozen BK102.out 3
                              have hfz71_4 := blk_frozen BK102.out 4
                              go_wp2
                              repeat (go_quiet (fail); try go_wp2)
                              go_roundg kj4
                              case measure => have := HK1.out; have := HJ4.out; omega
                              case rel => exact ⟨(wrap64 (x3_1 + 1)), (by first | rfl | (simp; done) | (simp [*]; done)), H', ⟨by have := HK1.out; have := HJ4.out; omega⟩, ⟨by repeat (first | (with_reducible first | exact HB.out | apply below_alloc | apply pw_below_drewN | apply below_drew1 | refine below_set ?_ GE102.out) | exact HB.out)⟩⟩
                          · rw [if_neg c63] at H
                            have c63b0 : (x3_1 == (wrap64 ((l0.length : Int) - 1))) = false := beq_eq_false_iff_ne.mpr c63
                            have c63b1 : (x3_1 != (wrap64 ((l0.length : Int) - 1))) = true := bne_iff_ne.mpr c63
                            obtain rfl := Option.some.inj H
                            have hcz72_0 : wc.cell? ⟨gb102, 0, none⟩ = some (.int .u64 ((rd_T84 l0 x3_1).f0)) := (blk_cell BK102.out 0).trans rfl
                            have hcz72_1 : wc.cell? ⟨gb102, 1, none⟩ = some (.int .i64 ((rd_T84 l0 x3_1).f1)) := (blk_cell BK102.out 1).trans rfl
                            have hcz72_2 : wc.cell? ⟨gb102, 2, none⟩ = some (.int .i64 ((rd_T84 l0 x3_1).f2)) := (blk_cell BK102.out 2).trans rfl
                            have hcz72_3 : wc.cell? ⟨gb102, 3, none⟩ = some (.int .i64 ((rd_T84 l0 x3_1).f3)) := (blk_cell BK102.out 3).trans rfl
                            have hcz72_4 : wc.cell? ⟨gb102, 4, none⟩ = some (.int .i64 ((rd_T84 l0 x3_1).f4)) := (blk_cell BK102.out 4).trans rfl
                            have hfz72_0 := blk_frozen BK102.out 0
                            have hfz72_1 := blk_frozen BK102.out 1
                            have hfz72_2 := blk_frozen BK102.out 2
                            have hfz72_3 := blk_frozen BK102.out 3
                            have hfz72_4 := blk_frozen BK102.out 4
                            go_wp2
                            repeat (go_quiet (fail); try go_wp2)
                            go_ret
                            exact ⟨by first | rfl | (simp [errW_none, errW_some] <;> rfl) | (simp [*, errW_none, errW_some] <;> rfl), by repeat (first | (with_reducible first | exact HB.out | apply below_alloc | apply pw_below_drewN | apply below_drew1 | refine below_set ?_ GE102.out) | exact HB.out)⟩
                        · rw [if_neg c62] at H
                          have c62b0 : (((rd_T84 l0 x3_1).f1) == 0) = false := beq_eq_false_iff_ne.mpr c62
                          have c62b1 : (((rd_T84 l0 x3_1).f1) != 0) = true := bne_iff_ne.mpr c62
                          obtain rfl := Option.some.inj H
                          have hcz73_0 : wc.cell? ⟨gb102, 0, none⟩ = some (.int .u64 ((rd_T84 l0 x3_1).f0)) := (blk_cell BK102.out 0).trans rfl
                          have hcz73_1 : wc.cell? ⟨gb102, 1, none⟩ = some (.int .i64 ((rd_T84 l0 x3_1).f1)) := (blk_cell BK102.out 1).trans rfl
                          have hcz73_2 : wc.cell? ⟨gb102, 2, none⟩ = some (.int .i64 ((rd_T84 l0 x3_1).f2)) := (blk_cell BK102.out 2).trans rfl
                          have hcz73_3 : wc.cell? ⟨gb102, 3, none⟩ = some (.int .i64 ((rd_T84 l0 x3_1).f3)) := (blk_cell BK102.out 3).trans rfl
                          have hcz73_4 : wc.cell? ⟨gb102, 4, none⟩ = some (.int .i64 ((rd_T84 l0 x3_1).f4)) := (blk_cell BK102.out 4).trans rfl
                          have hfz73_0 := blk_frozen BK102.out 0
                          have hfz73_1 := blk_frozen BK102.out 1
                          have hfz73_2 := blk_frozen BK102.out 2
                          have hfz73_3 := blk_frozen BK102.out 3
                          have hfz73_4 := blk_frozen BK102.out 4
                          go_wp2
                          repeat (go_quiet (fail); try go_wp2)
                          go_ret
                          exact ⟨by first | rfl | (simp [errW_none, errW_some] <;> rfl) | (simp [*, errW_none, errW_some] <;> rfl), by repeat (first | (with_reducible first | exact HB.out | apply below_alloc | apply pw_below_drewN | apply below_drew1 | refine below_set ?_ GE102.out) | exact HB.out)⟩
                      · rw [if_neg c61] at H
                        have c61b0 : (((rd_T84 l0 x3_1).f2) == 1) = false := beq_eq_false_iff_ne.mpr c61
                        have c61b1 : (((rd_T84 l0 x3_1).f2) != 1) = true := bne_iff_ne.mpr c61
                        obtain rfl := Option.some.inj H
                        have hcz74_0 : wc.cell? ⟨gb102, 0, none⟩ = some (.int .u64 ((rd_T84 l0 x3_1).f0)) := (blk_cell BK102.out 0).trans rfl
                        have hcz74_1 : wc.cell? ⟨gb102, 1, none⟩ = some (.int .i64 ((rd_T84 l0 x3_1).f1)) := (blk_cell BK102.out 1).trans rfl
                        have hcz74_2 : wc.cell? ⟨gb102, 2, none⟩ = some (.int .i64 ((rd_T84 l0 x3_1).f2)) := (blk_cell BK102.out 2).trans rfl
                        have hcz74_3 : wc.cell? ⟨gb102, 3, none⟩ = some (.int .i64 ((rd_T84 l0 x3_1).f3)) := (blk_cell BK102.out 3).trans rfl
                        have hcz74_4 : wc.cell? ⟨gb102, 4, none⟩ = some (.int .i64 ((rd_T84 l0 x3_1).f4)) := (blk_cell BK102.out 4).trans rfl
                        have hfz74_0 := blk_frozen BK102.out 0
                        have hfz74_1 := blk_frozen BK102.out 1
                        have hfz74_2 := blk_frozen BK102.out 2
                        have hfz74_3 := blk_frozen BK102.out 3
                        have hfz74_4 := blk_frozen BK102.out 4
                        go_wp2
                        repeat (go_quiet (fail); try go_wp2)
                        go_ret
                        exact ⟨by first | rfl | (simp [errW_none, errW_some] <;> rfl) | (simp [*, errW_none, errW_some] <;> rfl), by repeat (first | (with_reducible first | exact HB.out | apply below_alloc | apply pw_below_drewN | apply below_drew1 | refine below_set ?_ GE102.out) | exact HB.out)⟩
                  · rw [if_neg c18] at H
                    have c18b0 : (((rd_T84 l0 x3_1).f2) == 0) = false := beq_eq_false_iff_ne.mpr c18
                    have c18b1 : (((rd_T84 l0 x3_1).f2) != 0) = true := bne_iff_ne.mpr c18
                    by_cases c75 : ((rd_T84 l0 x3_1).f2) = 1
                    · rw [if_pos c75] at H
                      have c75b0 : (((rd_T84 l0 x3_1).f2) == 1) = true := beq_iff_eq.mpr c75
                      have c75b1 : (((rd_T84 l0 x3_1).f2) != 1) = false := bne_eq_false_iff_eq.mpr c75
                      clear c75
                      by_cases c76 : ((rd_T84 l0 x3_1).f1) = 0
                      · rw [if_pos c76] at H
                        have c76b0 : (((rd_T84 l0 x3_1).f1) == 0) = true := beq_iff_eq.mpr c76
                        have c76b1 : (((rd_T84 l0 x3_1).f1) != 0) = false := bne_eq_false_iff_eq.mpr c76
                        clear c76
                        by_cases c77 : (x3_1 = (wrap64 ((l0.length : Int) - 1)))
                        · rw [if_pos c77] at H
                          have c77b0 : (x3_1 == (wrap64 ((l0.length : Int) - 1))) = true := beq_iff_eq.mpr c77
                          have c77b1 : (x3_1 != (wrap64 ((l0.length : Int) - 1))) = false := bne_eq_false_iff_eq.mpr c77
                          clear c77
                          by_cases c78 : x3_1 > 0
                          · rw [if_pos c78] at H
                            have c78b0 : decide (0 < x3_1) = true := decide_eq_true c78
                            clear c78
                            obtain ⟨ji79, hji79⟩ : ∃ j_ : Int, (wrap64 (x3_1 - 1)) = j_ := ⟨_, rfl⟩
                            replace H : (if 0 ≤ (ji79) then (if (ji79) < (l0.length : Int) then (if ((rd_T84 l0 x3_1).f0) < (IntKind.u64.wrap (((rd_T84 l0 (ji79)).f0) + (IntKind.u64.wrap ((rd_T84 l0 (ji79)).f1)))) then (some false) else (spec_l6MapsOK.l0 kj4 l0 (wrap64 (x3_1 + 1)))) else (none)) else (none)) = some r := by first | (rw [hji79] at H; exact H) | (simp only [hji79] at H ⊢; exact H)
                            have hji79w : (IntKind.i64.wrap (x3_1 - 1)) = ji79 := (i64_w _).trans hji79
                            by_cases c80 : 0 ≤ (ji79)
                            · rw [if_pos c80] at H
                              have c80b0 : decide (0 ≤ (ji79)) = true := decide_eq_true c80
                              clear c80
                              by_cases c81 : (ji79) < (l0.length : Int)
                              · rw [if_pos c81] at H
                                have c81b0 : decide ((ji79) < (l0.length : Int)) = true := decide_eq_true c81
                                clear c81
                                by_cases c82 : ((rd_T84 l0 x3_1).f0) < (IntKind.u64.wrap (((rd_T84 l0 (ji79)).f0) + (IntKind.u64.wrap ((rd_T84 l0 (ji79)).f1))))
                                · rw [if_pos c82] at H
                                  have c82b0 : decide (((rd_T84 l0 x3_1).f0) < (IntKind.u64.wrap (((rd_T84 l0 (ji79)).f0) + (IntKind.u64.wrap ((rd_T84 l0 (ji79)).f1))))) = true := decide_eq_true c82
                                  clear c82
                                  obtain rfl := Option.some.inj H
                                  have hcz83_0 : wc.cell? ⟨gb102, 0, none⟩ = some (.int .u64 ((rd_T84 l0 x3_1).f0)) := (blk_cell BK102.out 0).trans rfl
                                  have hcz83_1 : wc.cell? ⟨gb102, 1, none⟩ = some (.int .i64 ((rd_T84 l0 x3_1).f1)) := (blk_cell BK102.out 1).trans rfl
                                  have hcz83_2 : wc.cell? ⟨gb102, 2, none⟩ = some (.int .i64 ((rd_T84 l0 x3_1).f2)) := (blk_cell BK102.out 2).trans rfl
                                  have hcz83_3 : wc.cell? ⟨gb102, 3, none⟩ = some (.int .i64 ((rd_T84 l0 x3_1).f3)) := (blk_cell BK102.out 3).trans rfl
                                  have hcz83_4 : wc.cell? ⟨gb102, 4, none⟩ = some (.int .i64 ((rd_T84 l0 x3_1).f4)) := (blk_cell BK102.out 4).trans rfl
                                  have hfz83_0 := blk_frozen BK102.out 0
                                  have hfz83_1 := blk_frozen BK102.out 1
                                  have hfz83_2 := blk_frozen BK102.out 2
                                  have hfz83_3 := blk_frozen BK102.out 3
                                  have hfz83_4 := blk_frozen BK102.out 4
                                  have p113 : 0 ≤ ((ji79) : Int) := of_decide_eq_true (by first | (with_reducible assumption) | assumption)
                                  have q113 : (ji79) < (l0.length : Int) := of_decide_eq_true (by first | (with_reducible assumption) | assumption)
                                  obtain ⟨ad113, e113, hx113_0, hx113_1, hx113_2, hx113_3, hx113_4⟩ := at_T84 HR0.out (ji79) p113 q113
                                  obtain rfl : ad101 = ad113 := (by injection e113)
                                  replace hx113_0 := (HB.out.cell (World.block_lt_of_cell? w _ hx113_0)).trans hx113_0
                                  replace hx113_1 := (HB.out.cell (World.block_lt_of_cell? w _ hx113_1)).trans hx113_1
                                  replace hx113_2 := (HB.out.cell (World.block_lt_of_cell? w _ hx113_2)).trans hx113_2
                                  replace hx113_3 := (HB.out.cell (World.block_lt_of_cell? w _ hx113_3)).trans hx113_3
                                  replace hx113_4 := (HB.out.cell (World.block_lt_of_cell? w _ hx113_4)).trans hx113_4
                                  replace p113 := eq_true p113
                                  replace q113 := eq_true q113
                                  have p114 : 0 ≤ ((ji79) : Int) := of_decide_eq_true (by first | (with_reducible assumption) | assumption)
                                  have q114 : (ji79) < (l0.length : Int) := of_decide_eq_true (by first | (with_reducible assumption) | assumption)
                                  obtain ⟨ad114, e114, hx114_0, hx114_1, hx114_2, hx114_3, hx114_4⟩ := at_T84 HR0.out (ji79) p114 q114
                                  obtain rfl : ad101 = ad114 := (by injection e114)
                                  replace hx114_0 := (HB.out.cell (World.block_lt_of_cell? w _ hx114_0)).trans hx114_0
                                  replace hx114_1 := (HB.out.cell (World.block_lt_of_cell? w _ hx114_1)).trans hx114_1
                                  replace hx114_2 := (HB.out.cell (World.block_lt_of_cell? w _ hx114_2)).trans hx114_2
                                  replace hx114_3 := (HB.out.cell (World.block_lt_of_cell? w _ hx114_3)).trans hx114_3
                                  replace hx114_4 := (HB.out.cell (World.block_lt_of_cell? w _ hx114_4)).trans hx114_4
                                  replace p114 := eq_true p114
                                  replace q114 := eq_true q114
                                  go_wp2
                                  repeat (go_quiet (fail); try go_wp2)
                                  go_ret
                                  exact ⟨by first | rfl | (simp [errW_none, errW_some] <;> rfl) | (simp only [← hji79]; first | rfl | (simp [errW_none, errW_some] <;> rfl)) | (simp [*, errW_none, errW_some] <;> rfl), by repeat (first | (with_reducible first | exact HB.out | apply below_alloc | apply pw_below_drewN | apply below_drew1 | refine below_set ?_ GE102.out) | exact HB.out)⟩
                                · rw [if_neg c82] at H
                                  have c82b0 : decide (((rd_T84 l0 x3_1).f0) < (IntKind.u64.wrap (((rd_T84 l0 (ji79)).f0) + (IntKind.u64.wrap ((rd_T84 l0 (ji79)).f1))))) = false := decide_eq_false c82
                                  clear c82
                                  have H' := Aside0.mk H
                                  clear H
                                  have hcz84_0 : wc.cell? ⟨gb102, 0, none⟩ = some (.int .u64 ((rd_T84 l0 x3_1).f0)) := (blk_cell BK102.out 0).trans rfl
                                  have hcz84_1 : wc.cell? ⟨gb102, 1, none⟩ = some (.int .i64 ((rd_T84 l0 x3_1).f1)) := (blk_cell BK102.out 1).trans rfl
                                  have hcz84_2 : wc.cell? ⟨gb102, 2, none⟩ = some (.int .i64 ((rd_T84 l0 x3_1).f2)) := (blk_cell BK102.out 2).trans rfl
                                  have hcz84_3 : wc.cell? ⟨gb102, 3, none⟩ = some (.int .i64 ((rd_T84 l0 x3_1).f3)) := (blk_cell BK102.out 3).trans rfl
                                  have hcz84_4 : wc.cell? ⟨gb102, 4, none⟩ = some (.int .i64 ((rd_T84 l0 x3_1).f4)) := (blk_cell BK102.out 4).trans rfl
                                  have hfz84_0 := blk_frozen BK102.out 0
                                  have hfz84_1 := blk_frozen BK102.out 1
                                  have hfz84_2 := blk_frozen BK102.out 2
                                  have hfz84_3 := blk_frozen BK102.out 3
                                  have hfz84_4 := blk_frozen BK102.out 4
                                  have p113 : 0 ≤ ((ji79) : Int) := of_decide_eq_true (by first | (with_reducible assumption) | assumption)
                                  have q113 : (ji79) < (l0.length : Int) := of_decide_eq_true (by first | (with_reducible assumption) | assumption)
                                  obtain ⟨ad113, e113, hx113_0, hx113_1, hx113_2, hx113_3, hx113_4⟩ := at_T84 HR0.out (ji79) p113 q113
                                  obtain rfl : ad101 = ad113 := (by injection e113)
                                  replace hx113_0 := (HB.out.cell (World.block_lt_of_cell? w _ hx113_0)).trans hx113_0
                                  replace hx113_1 := (HB.out.cell (World.block_lt_of_cell? w _ hx113_1)).trans hx113_1
                                  replace hx113_2 := (HB.out.cell (World.block_lt_of_cell? w _ hx113_2)).trans hx113_2
                                  replace hx113_3 := (HB.out.cell (World.block_lt_of_cell? w _ hx113_3)).trans hx113_3
                                  replace hx113_4 := (HB.out.cell (World.block_lt_of_cell? w _ hx113_4)).trans hx113_4
                                  replace p113 := eq_true p113
                                  replace q113 := eq_true q113
                                  have p114 : 0 ≤ ((ji79) : Int) := of_decide_eq_true (by first | (with_reducible assumption) | assumption)
                                  have q114 : (ji79) < (l0.length : Int) := of_decide_eq_true (by first | (with_reducible assumption) | assumption)
                                  obtain ⟨ad114, e114, hx114_0, hx114_1, hx114_2, hx114_3, hx114_4⟩ := at_T84 HR0.out (ji79) p114 q114
                                  obtain rfl : ad101 = ad114 := (by injection e114)
                                  replace hx114_0 := (HB.out.cell (World.block_lt_of_cell? w _ hx114_0)).trans hx114_0
                                  replace hx114_1 := (HB.out.cell (World.block_lt_of_cell? w _ hx114_1)).trans hx114_1
                                  replace hx114_2 := (HB.out.cell (World.block_lt_of_cell? w _ hx114_2)).trans hx114_2
                                  replace hx114_3 := (HB.out.cell (World.block_lt_of_cell? w _ hx114_3)).trans hx114_3
                                  replace hx114_4 := (HB.out.cell (World.block_lt_of_cell? w _ hx114_4)).trans hx114_4
                                  replace p114 := eq_true p114
                                  replace q114 := eq_true q114
                                  go_wp2
                                  repeat (go_quiet (fail); try go_wp2)
                                  go_roundg kj4
                                  case measure => have := HK1.out; have := HJ4.out; omega
                                  case rel => exact ⟨(wrap64 (x3_1 + 1)), (by first | rfl | (simp; done) | (simp [*]; done)), H', ⟨by have := HK1.out; have := HJ4.out; omega⟩, ⟨by repeat (first | (with_reducible first | exact HB.out | apply below_alloc | apply pw_below_drewN | apply below_drew1 | refine below_set ?_ GE102.out) | exact HB.out)⟩⟩
                              · rw [if_neg c81] at H
                                exact absurd H (by simp)
                            · rw [if_neg c80] at H
                              exact absurd H (by simp)
                          · rw [if_neg c78] at H
                            have c78b0 : decide (0 < x3_1) = false := decide_eq_false c78
                            clear c78
                            have H' := Aside0.mk H
                            clear H
                            have hcz85_0 : wc.cell? ⟨gb102, 0, none⟩ = some (.int .u64 ((rd_T84 l0 x3_1).f0)) := (blk_cell BK102.out 0).trans rfl
                            have hcz85_1 : wc.cell? ⟨gb102, 1, none⟩ = some (.int .i64 ((rd_T84 l0 x3_1).f1)) := (blk_cell BK102.out 1).trans rfl
                            have hcz85_2 : wc.cell? ⟨gb102, 2, none⟩ = some (.int .i64 ((rd_T84 l0 x3_1).f2)) := (blk_cell BK102.out 2).trans rfl
                            have hcz85_3 : wc.cell? ⟨gb102, 3, none⟩ = some (.int .i64 ((rd_T84 l0 x3_1).f3)) := (blk_cell BK102.out 3).trans rfl
                            have hcz85_4 : wc.cell? ⟨gb102, 4, none⟩ = some (.int .i64 ((rd_T84 l0 x3_1).f4)) := (blk_cell BK102.out 4).trans rfl
                            have hfz85_0 := blk_frozen BK102.out 0
                            have hfz85_1 := blk_frozen BK102.out 1
                            have hfz85_2 := blk_frozen BK102.out 2
                            have hfz85_3 := blk_frozen BK102.out 3
                            have hfz85_4 := blk_frozen BK102.out 4
                            go_wp2
                            repeat (go_quiet (fail); try go_wp2)
                            go_roundg kj4
                            case measure => have := HK1.out; have := HJ4.out; omega
                            case rel => exact ⟨(wrap64 (x3_1 + 1)), (by first | rfl | (simp; done) | (simp [*]; done)), H', ⟨by have := HK1.out; have := HJ4.out; omega⟩, ⟨by repeat (first | (with_reducible first | exact HB.out | apply below_alloc | apply pw_below_drewN | apply below_drew1 | refine below_set ?_ GE102.out) | exact HB.out)⟩⟩
                        · rw [if_neg c77] at H
                          have c77b0 : (x3_1 == (wrap64 ((l0.length : Int) - 1))) = false := beq_eq_false_iff_ne.mpr c77
                          have c77b1 : (x3_1 != (wrap64 ((l0.length : Int) - 1))) = true := bne_iff_ne.mpr c77
                          obtain rfl := Option.some.inj H
                          have hcz86_0 : wc.cell? ⟨gb102, 0, none⟩ = some (.int .u64 ((rd_T84 l0 x3_1).f0)) := (blk_cell BK102.out 0).trans rfl
                          have hcz86_1 : wc.cell? ⟨gb102, 1, none⟩ = some (.int .i64 ((rd_T84 l0 x3_1).f1)) := (blk_cell BK102.out 1).trans rfl
                          have hcz86_2 : wc.cell? ⟨gb102, 2, none⟩ = some (.int .i64 ((rd_T84 l0 x3_1).f2)) := (blk_cell BK102.out 2).trans rfl
                          have hcz86_3 : wc.cell? ⟨gb102, 3, none⟩ = some (.int .i64 ((rd_T84 l0 x3_1).f3)) := (blk_cell BK102.out 3).trans rfl
                          have hcz86_4 : wc.cell? ⟨gb102, 4, none⟩ = some (.int .i64 ((rd_T84 l0 x3_1).f4)) := (blk_cell BK102.out 4).trans rfl
                          have hfz86_0 := blk_frozen BK102.out 0
                          have hfz86_1 := blk_frozen BK102.out 1
                          have hfz86_2 := blk_frozen BK102.out 2
                          have hfz86_3 := blk_frozen BK102.out 3
                          have hfz86_4 := blk_frozen BK102.out 4
                          go_wp2
                          repeat (go_quiet (fail); try go_wp2)
                          go_ret
                          exact ⟨by first | rfl | (simp [errW_none, errW_some] <;> rfl) | (simp [*, errW_none, errW_some] <;> rfl), by repeat (first | (with_reducible first | exact HB.out | apply below_alloc | apply pw_below_drewN | apply below_drew1 | refine below_set ?_ GE102.out) | exact HB.out)⟩
                      · rw [if_neg c76] at H
                        have c76b0 : (((rd_T84 l0 x3_1).f1) == 0) = false := beq_eq_false_iff_ne.mpr c76
                        have c76b1 : (((rd_T84 l0 x3_1).f1) != 0) = true := bne_iff_ne.mpr c76
                        obtain rfl := Option.some.inj H
                        have hcz87_0 : wc.cell? ⟨gb102, 0, none⟩ = some (.int .u64 ((rd_T84 l0 x3_1).f0)) := (blk_cell BK102.out 0).trans rfl
                        have hcz87_1 : wc.cell? ⟨gb102, 1, none⟩ = some (.int .i64 ((rd_T84 l0 x3_1).f1)) := (blk_cell BK102.out 1).trans rfl
                        have hcz87_2 : wc.cell? ⟨gb102, 2, none⟩ = some (.int .i64 ((rd_T84 l0 x3_1).f2)) := (blk_cell BK102.out 2).trans rfl
                        have hcz87_3 : wc.cell? ⟨gb102, 3, none⟩ = some (.int .i64 ((rd_T84 l0 x3_1).f3)) := (blk_cell BK102.out 3).trans rfl
                        have hcz87_4 : wc.cell? ⟨gb102, 4, none⟩ = some (.int .i64 ((rd_T84 l0 x3_1).f4)) := (blk_cell BK102.out 4).trans rfl
                        have hfz87_0 := blk_frozen BK102.out 0
                        have hfz87_1 := blk_frozen BK102.out 1
                        have hfz87_2 := blk_frozen BK102.out 2
                        have hfz87_3 := blk_frozen BK102.out 3
                        have hfz87_4 := blk_frozen BK102.out 4
                        go_wp2
                        repeat (go_quiet (fail); try go_wp2)
                        go_ret
                        exact ⟨by first | rfl | (simp [errW_none, errW_some] <;> rfl) | (simp [*, errW_none, errW_some] <;> rfl), by repeat (first | (with_reducible first | exact HB.out | apply below_alloc | apply pw_below_drewN | apply below_drew1 | refine below_set ?_ GE102.out) | exact HB.out)⟩
                    · rw [if_neg c75] at H
                      have c75b0 : (((rd_T84 l0 x3_1).f2) == 1) = false := beq_eq_false_iff_ne.mpr c75
                      have c75b1 : (((rd_T84 l0 x3_1).f2) != 1) = true := bne_iff_ne.mpr c75
                      obtain rfl := Option.some.inj H
                      have hcz88_0 : wc.cell? ⟨gb102, 0, none⟩ = some (.int .u64 ((rd_T84 l0 x3_1).f0)) := (blk_cell BK102.out 0).trans rfl
                      have hcz88_1 : wc.cell? ⟨gb102, 1, none⟩ = some (.int .i64 ((rd_T84 l0 x3_1).f1)) := (blk_cell BK102.out 1).trans rfl
                      have hcz88_2 : wc.cell? ⟨gb102, 2, none⟩ = some (.int .i64 ((rd_T84 l0 x3_1).f2)) := (blk_cell BK102.out 2).trans rfl
                      have hcz88_3 : wc.cell? ⟨gb102, 3, none⟩ = some (.int .i64 ((rd_T84 l0 x3_1).f3)) := (blk_cell BK102.out 3).trans rfl
                      have hcz88_4 : wc.cell? ⟨gb102, 4, none⟩ = some (.int .i64 ((rd_T84 l0 x3_1).f4)) := (blk_cell BK102.out 4).trans rfl
                      have hfz88_0 := blk_frozen BK102.out 0
                      have hfz88_1 := blk_frozen BK102.out 1
                      have hfz88_2 := blk_frozen BK102.out 2
                      have hfz88_3 := blk_frozen BK102.out 3
                      have hfz88_4 := blk_frozen BK102.out 4
                      go_wp2
                      repeat (go_quiet (fail); try go_wp2)
                      go_ret
                      exact ⟨by first | rfl | (simp [errW_none, errW_some] <;> rfl) | (simp [*, errW_none, errW_some] <;> rfl), by repeat (first | (with_reducible first | exact HB.out | apply below_alloc | apply pw_below_drewN | apply below_drew1 | refine below_set ?_ GE102.out) | exact HB.out)⟩
          · rw [if_neg c4] at H
            exact absurd H (by simp)
        · rw [if_neg c3] at H
          have c3b0 : decide (x3_1 < (l0.length : Int)) = false := decide_eq_false c3
          clear c3
          obtain rfl := Option.some.inj H
          go_wp2
          repeat (go_quiet (fail); try go_wp2)
          go_ret
          exact ⟨by first | rfl | (simp [errW_none, errW_some] <;> rfl) | (simp [*, errW_none, errW_some] <;> rfl), by repeat (first | (with_reducible first | exact HB.out | apply below_alloc | apply pw_below_drewN | apply below_drew1) | exact HB.out)⟩

end Go.Proofs.Ytakeenidhkhmiaa.PFnExactAckMaps
