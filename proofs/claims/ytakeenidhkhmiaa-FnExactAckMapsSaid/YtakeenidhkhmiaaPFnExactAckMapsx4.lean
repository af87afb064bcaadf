-- by a program of this session (wip/pr)
import Derived.Test.YtakeenidhkhmiaaPFnExactAckMapsx0
namespace Go.Proofs.Ytakeenidhkhmiaa.PFnExactAckMaps
open Go.RowKit Go.Proofs.YtakeenidhkhmiaaW.PrintWords Go.Proofs.YtakeenidhkhmiaaW.PrintLast Go.Proofs.YtakeenidhkhmiaaW.PrintMore
attribute [local go_sem] max2_int min2_int max_two min_two max_three min_three max_four min_four   -- for this text's walks alone
set_option linter.unusedVariables false
set_option linter.unusedSimpArgs false

/-! ### impl_validMaps: function 74 -/
mutual
def impl_validMaps.l0 : Nat → List (S84) → List (S84) → Int → Int → Option (Bool)
  | 0, _, _, _, _ => none
  | k + 1, x0, x10, x11, x12 => if x12 < x11 then (if 0 ≤ x12 then (if x12 < (x10.length : Int) then (if ((rd_T84 x10 x12).f2) = 0 then (if ((rd_T84 x10 x12).f1) ≥ 1 then (impl_validMaps.j1 k x0 x12 (decide (((rd_T84 x10 x12).f1) ≤ 32)) x10 x11 x12 ((rd_T84 x10 x12).f0) ((rd_T84 x10 x12).f1) ((rd_T84 x10 x12).f2) ((rd_T84 x10 x12).f3) ((rd_T84 x10 x12).f4)) else (impl_validMaps.j1 k x0 x12 false x10 x11 x12 ((rd_T84 x10 x12).f0) ((rd_T84 x10 x12).f1) ((rd_T84 x10 x12).f2) ((rd_T84 x10 x12).f3) ((rd_T84 x10 x12).f4))) else (impl_validMaps.j1 k x0 x12 false x10 x11 x12 ((rd_T84 x10 x12).f0) ((rd_T84 x10 x12).f1) ((rd_T84 x10 x12).f2) ((rd_T84 x10 x12).f3) ((rd_T84 x10 x12).f4))) else (none)) else (none)) else (some true)
def impl_validMaps.j1 : Nat → List (S84) → Int → Bool → List (S84) → Int → Int → Int → Int → Int → Int → Int → Option (Bool)
  | 0, _, _, _, _, _, _, _, _, _, _, _ => none
  | k + 1, x0, x3, x5, x10, x11, x12, x141000, x141001, x141002, x141003, x141004 => if x141002 = 1 then (if x141001 = 0 then (impl_validMaps.j2 k x0 x3 x5 (x3 == (wrap64 ((x0.length : Int) - 1))) x10 x11 x12 x141000 x141001 x141002 x141003 x141004) else (impl_validMaps.j2 k x0 x3 x5 false x10 x11 x12 x141000 x141001 x141002 x141003 x141004)) else (impl_validMaps.j2 k x0 x3 x5 false x10 x11 x12 x141000 x141001 x141002 x141003 x141004)
def impl_validMaps.j2 : Nat → List (S84) → Int → Bool → Bool → List (S84) → Int → Int → Int → Int → Int → Int → Int → Option (Bool)
  | 0, _, _, _, _, _, _, _, _, _, _, _, _ => none
  | k + 1, x0, x3, x5, x6, x10, x11, x12, x141000, x141001, x141002, x141003, x141004 => if x141000 > 4611686018427387904 then (impl_validMaps.j3 k x0 x3 x10 x11 x12 true x141000 x141001 x141002 x141003 x141004) else (if x5 = true then (if x141003 < 1 then (impl_validMaps.j3 k x0 x3 x10 x11 x12 true x141000 x141001 x141002 x141003 x141004) else (if x141003 > 255 then (impl_validMaps.j3 k x0 x3 x10 x11 x12 true x141000 x141001 x141002 x141003 x141004) else (if x141004 = 0 then (impl_validMaps.j3 k x0 x3 x10 x11 x12 false x141000 x141001 x141002 x141003 x141004) else (impl_validMaps.j3 k x0 x3 x10 x11 x12 (x141004 != 1) x141000 x141001 x141002 x141003 x141004)))) else (if x6 = true then (if x141003 < 1 then (impl_validMaps.j3 k x0 x3 x10 x11 x12 true x141000 x141001 x141002 x141003 x141004) else (if x141003 > 255 then (impl_validMaps.j3 k x0 x3 x10 x11 x12 true x141000 x141001 x141002 x141003 x141004) else (if x141004 = 0 then (impl_validMaps.j3 k x0 x3 x10 x11 x12 false x141000 x141001 x141002 x141003 x141004) else (impl_validMaps.j3 k x0 x3 x10 x11 x12 (x141004 != 1) x141000 x141001 x141002 x141003 x141004)))) else (impl_validMaps.j3 k x0 x3 x10 x11 x12 true x141000 x141001 x141002 x141003 x141004)))
def impl_validMaps.j3 : Nat → List (S84) → Int → List (S84) → Int → Int → Bool → Int → Int → Int → Int → Int → Option (Bool)
  | 0, _, _, _, _, _, _, _, _, _, _, _ => none
  | k + 1, x0, x3, x10, x11, x12, x75, x141000, x141001, x141002, x141003, x141004 => if x75 = true then (some false) else (if x3 > 0 then (if 0 ≤ (wrap64 (x3 - 1)) then (if (wrap64 (x3 - 1)) < (x0.length : Int) then (if x141000 < (IntKind.u64.wrap (((rd_T84 x0 (wrap64 (x3 - 1))).f0) + (IntKind.u64.wrap ((rd_T84 x0 (wrap64 (x3 - 1))).f1)))) then (some false) else (impl_validMaps.l0 k x0 x10 x11 (wrap64 (x12 + 1)))) else (none)) else (none)) else (impl_validMaps.l0 k x0 x10 x11 (wrap64 (x12 + 1))))
end
def impl_validMaps.f (k : Nat) (l0 : List (S84)) : Option (Bool) := if (l0.length : Int) > 256 then (some false) else (impl_validMaps.l0 k l0 l0 (l0.length : Int) 0)
theorem impl_validMaps.mono_l : ∀ k, (∀ y0 y1 y2 y3, LeO (impl_validMaps.l0 k y0 y1 y2 y3) (impl_validMaps.l0 (k + 1) y0 y1 y2 y3)) ∧ (∀ y0 y1 y2 y3 y4 y5 y6 y7 y8 y9 y10, LeO (impl_validMaps.j1 k y0 y1 y2 y3 y4 y5 y6 y7 y8 y9 y10) (impl_validMaps.j1 (k + 1) y0 y1 y2 y3 y4 y5 y6 y7 y8 y9 y10)) ∧ (∀ y0 y1 y2 y3 y4 y5 y6 y7 y8 y9 y10 y11, LeO (impl_validMaps.j2 k y0 y1 y2 y3 y4 y5 y6 y7 y8 y9 y10 y11) (impl_validMaps.j2 (k + 1) y0 y1 y2 y3 y4 y5 y6 y7 y8 y9 y10 y11)) ∧ (∀ y0 y1 y2 y3 y4 y5 y6 y7 y8 y9 y10, LeO (impl_validMaps.j3 k y0 y1 y2 y3 y4 y5 y6 y7 y8 y9 y10) (impl_validMaps.j3 (k + 1) y0 y1 y2 y3 y4 y5 y6 y7 y8 y9 y10))
  | 0 => ⟨fun _ _ _ _ r h => by simp [impl_validMaps.l0] at h, fun _ _ _ _ _ _ _ _ _ _ _ r h => by simp [impl_validMaps.j1] at h, fun _ _ _ _ _ _ _ _ _ _ _ _ r h => by simp [impl_validMaps.j2] at h, fun _ _ _ _ _ _ _ _ _ _ _ r h => by simp [impl_validMaps.j3] at h⟩
  | k + 1 => by
    obtain ⟨ih0, ih1, ih2, ih3⟩ := impl_validMaps.mono_l k
    refine ⟨?_, ?_, ?_, ?_⟩
    · intro y0 y1 y2 y3
      unfold impl_validMaps.l0
      repeat' first
      | (with_reducible exact ih0 _ _ _ _)
      | (with_reducible exact ih1 _ _ _ _ _ _ _ _ _ _ _)
      | (with_reducible exact ih2 _ _ _ _ _ _ _ _ _ _ _ _)
      | (with_reducible exact ih3 _ _ _ _ _ _ _ _ _ _ _)
      | (with_reducible exact LeO.refl _)
      | (with_reducible exact LeO.none _)
      | (with_reducible refine LeO.ite ?_ ?_)
      | (with_reducible refine LeO.bind ?_ (fun _ => ?_))
      | exact ih0 _ _ _ _
      | exact ih1 _ _ _ _ _ _ _ _ _ _ _
      | exact ih2 _ _ _ _ _ _ _ _ _ _ _ _
      | exact ih3 _ _ _ _ _ _ _ _ _ _ _
      | exact LeO.none _
      | refine LeO.ite ?_ ?_
      | refine LeO.bind ?_ (fun _ => ?_)
    · intro y0 y1 y2 y3 y4 y5 y6 y7 y8 y9 y10
      unfold impl_validMaps.j1
      repeat' first
      | (with_reducible exact ih0 _ _ _ _)
      | (with_reducible exact ih1 _ _ _ _ _ _ _ _ _ _ _)
      | (with_reducible exact ih2 _ _ _ _ _ _ _ _ _ _ _ _)
      | (with_reducible exact ih3 _ _ _ _ _ _ _ _ _ _ _)
      | (with_reducible exact LeO.refl _)
      | (with_reducible exact LeO.none _)
      | (with_reducible refine LeO.ite ?_ ?_)
      | (with_reducible refine LeO.bind ?_ (fun _ => ?_))
      | exact ih0 _ _ _ _
      | exact ih1 _ _ _ _ _ _ _ _ _ _ _
      | exact ih2 _ _ _ _ _ _ _ _ _ _ _ _
      | exact ih3 _ _ _ _ _ _ _ _ _ _ _
      | exact LeO.none _
      | refine LeO.ite ?_ ?_
      | refine LeO.bind ?_ (fun _ => ?_)
    · intro y0 y1 y2 y3 y4 y5 y6 y7 y8 y9 y10 y11
      unfold impl_validMaps.j2
      repeat' first
      | (with_reducible exact ih0 _ _ _ _)
      | (with_reducible exact ih1 _ _ _ _ _ _ _ _ _ _ _)
      | (with_reducible exact ih2 _ _ _ _ _ _ _ _ _ _ _ _)
      | (with_reducible exact ih3 _ _ _ _ _ _ _ _ _ _ _)
      | (with_reducible exact LeO.refl _)
      | (with_reducible exact LeO.none _)
      | (with_reducible refine LeO.ite ?_ ?_)
      | (with_reducible refine LeO.bind ?_ (fun _ => ?_))
      | exact ih0 _ _ _ _
      | exact ih1 _ _ _ _ _ _ _ _ _ _ _
      | exact ih2 _ _ _ _ _ _ _ _ _ _ _ _
      | exact ih3 _ _ _ _ _ _ _ _ _ _ _
      | exact LeO.none _
      | refine LeO.ite ?_ ?_
      | refine LeO.bind ?_ (fun _ => ?_)
    · intro y0 y1 y2 y3 y4 y5 y6 y7 y8 y9 y10
      unfold impl_validMaps.j3
      repeat' first
      | (with_reducible exact ih0 _ _ _ _)
      | (with_reducible exact ih1 _ _ _ _ _ _ _ _ _ _ _)
      | (with_reducible exact ih2 _ _ _ _ _ _ _ _ _ _ _ _)
      | (with_reducible exact ih3 _ _ _ _ _ _ _ _ _ _ _)
      | (with_reducible exact LeO.refl _)
      | (with_reducible exact LeO.none _)
      | (with_reducible refine LeO.ite ?_ ?_)
      | (with_reducible refine LeO.bind ?_ (fun _ => ?_))
      | exact ih0 _ _ _ _
      | exact ih1 _ _ _ _ _ _ _ _ _ _ _
      | exact ih2 _ _ _ _ _ _ _ _ _ _ _ _
      | exact ih3 _ _ _ _ _ _ _ _ _ _ _
      | exact LeO.none _
      | refine LeO.ite ?_ ?_
      | refine LeO.bind ?_ (fun _ => ?_)
theorem impl_validMaps.mono : ∀ a0 k, LeO (impl_validMaps.f k a0) (impl_validMaps.f (k + 1) a0) := by
  intro a0 k
  obtain ⟨ih0, ih1, ih2, ih3⟩ := impl_validMaps.mono_l k
  unfold impl_validMaps.f
  repeat' first
      | (with_reducible exact ih0 _ _ _ _)
      | (with_reducible exact ih1 _ _ _ _ _ _ _ _ _ _ _)
      | (with_reducible exact ih2 _ _ _ _ _ _ _ _ _ _ _ _)
      | (with_reducible exact ih3 _ _ _ _ _ _ _ _ _ _ _)
      | (with_reducible exact LeO.refl _)
      | (with_reducible exact LeO.none _)
      | (with_reducible refine LeO.ite ?_ ?_)
      | (with_reducible refine LeO.bind ?_ (fun _ => ?_))
      | exact ih0 _ _ _ _
      | exact ih1 _ _ _ _ _ _ _ _ _ _ _
      | exact ih2 _ _ _ _ _ _ _ _ _ _ _ _
      | exact ih3 _ _ _ _ _ _ _ _ _ _ _
      | exact LeO.none _
      | refine LeO.ite ?_ ?_
      | refine LeO.bind ?_ (fun _ => ?_)
set_option maxHeartbeats 8000000 in
set_option maxRecDepth 100000 in
theorem impl_validMaps.calls (k : Nat) (A0 : Option Addr) (c0 : Nat) (l0 : List (S84)) (r : Bool) (w : World) (hr0 : Kd.C k84 w A0 l0.length l0) (hc0 : l0.length ≤ c0) (h : impl_validMaps.f k l0 = some r) :
    Calls Try.prog 74 #[.slice A0 l0.length c0] w fun e w' => e = .returned (.bool r) ∧ Below w.heap.size w w' := by
  have hu84 := Try.underlying84
  have HR0 := Aside0.mk hr0
  have HC0 := Aside0.mk hc0
  clear hr0 hc0
  have HB := Aside0.mk (Below.refl w.heap.size w)
  have H : (if (l0.length : Int) > 256 then (some false) else (impl_validMaps.l0 k l0 l0 (l0.length : Int) 0)) = some r := h
  clear h
  by_cases c2 : (l0.length : Int) > 256
  · rw [if_pos c2] at H
    have c2b0 : decide (256 < (l0.length : Int)) = true := decide_eq_true c2
    have c2b1 : decide (256 < l0.length) = true := decide_eq_true (by omega)
    clear c2
    obtain rfl := Option.some.inj H
    go_enter Try.func74, Try.ntmps74
    go_wp2
    repeat (go_quiet (fail); try go_wp2)
    go_ret
    exact ⟨by first | rfl | (simp [errW_none, errW_some] <;> rfl) | (simp [*, errW_none, errW_some] <;> rfl), by repeat (first | (with_reducible first | exact HB.out | apply below_alloc | apply pw_below_drewN | apply below_drew1) | exact HB.out)⟩
  · rw [if_neg c2] at H
    have c2b0 : decide (256 < (l0.length : Int)) = false := decide_eq_false c2
    have c2b1 : decide (256 < l0.length) = false := decide_eq_false (by omega)
    clear c2
    have H' := Aside0.mk H
    clear H
    go_enter Try.func74, Try.ntmps74
    go_wp2
    repeat (go_quiet (fail); try go_wp2)
    go_loopg [12] k (fun kq v12 w' => ∃ (x12_1 : Int), v12 = .int .i64 x12_1 ∧ Aside0 (impl_validMaps.l0 kq l0 l0 (l0.length : Int) x12_1 = some r) ∧ Aside0 (kq ≤ k) ∧ Aside0 (Below w.heap.size w w'))
    case atStart => exact ⟨(0), (by first | rfl | (simp; done) | (simp [*]; done)), H', ⟨Nat.le_refl _⟩, ⟨by repeat (first | (with_reducible first | exact HB.out | apply below_alloc | apply pw_below_drewN | apply below_drew1) | exact HB.out)⟩⟩
    case round =>
      clear H'
      try clear c2
      try clear c2b0
      try clear c2b1
      try clear p2
      obtain ⟨x12_1, rfl, HA, HK1, HB⟩ := hrel
      cases gk with
      | zero => exact absurd HA.out (by simp [impl_validMaps.l0])
      | succ k1 =>
        have H := HA.out
        clear HA
        simp only [impl_validMaps.l0] at H
        by_cases c3 : x12_1 < (l0.length : Int)
        · rw [if_pos c3] at H
          have c3b0 : decide (x12_1 < (l0.length : Int)) = true := decide_eq_true c3
          clear c3
          by_cases c4 : 0 ≤ x12_1
          · rw [if_pos c4] at H
            have c4b0 : decide (0 ≤ x12_1) = true := decide_eq_true c4
            clear c4
            by_cases c5 : x12_1 < (l0.length : Int)
            · rw [if_pos c5] at H
              have c5b0 : decide (x12_1 < (l0.length : Int)) = true := decide_eq_true c5
              clear c5
              have HC6 := Aside0.mk H
              clear H
              have p139 : 0 ≤ (x12_1 : Int) := of_decide_eq_true (by first | (with_reducible assumption) | assumption)
              have q139 : x12_1 < (l0.length : Int) := of_decide_eq_true (by first | (with_reducible assumption) | assumption)
              obtain ⟨ad139, e139, hx139_0, hx139_1, hx139_2, hx139_3, hx139_4⟩ := at_T84 HR0.out x12_1 p139 q139
              cases e139
              replace hx139_0 := (HB.out.cell (World.block_lt_of_cell? w _ hx139_0)).trans hx139_0
              replace hx139_1 := (HB.out.cell (World.block_lt_of_cell? w _ hx139_1)).trans hx139_1
              replace hx139_2 := (HB.out.cell (World.block_lt_of_cell? w _ hx139_2)).trans hx139_2
              replace hx139_3 := (HB.out.cell (World.block_lt_of_cell? w _ hx139_3)).trans hx139_3
              replace hx139_4 := (HB.out.cell (World.block_lt_of_cell? w _ hx139_4)).trans hx139_4
              replace p139 := eq_true p139
              replace q139 := eq_true q139
              go_upto_region 6 with (first | ((with_reducible refine gate_dst (N := 4) rfl ?_); (try (refine gate_guard (by rfl) ?_; dsimp only)); refine box_event ?hg (N := 4) ?hd (cs := #[.int .u64 0, .int .i64 0, .int .i64 0, .int .i64 0, .int .i64 0]) (t := 84) ?hr ?_; (case hd => rfl); (case hg => rfl); (case hr => first | (go_simp; done) | (go_simp; rfl)); intro gb140 hg w7 hbox hb; have n0_ := Aside0.mk (below_step (by repeat (first | (with_reducible first | exact HB.out | apply below_alloc | apply pw_below_drewN | apply below_drew1) | exact HB.out)) hb); have n1_ := Aside0.mk (hbox); have n2_ := Aside0.mk ((by rw [hg]; exact (below_size (by repeat (first | (with_reducible first | exact HB.out | apply below_alloc | apply pw_below_drewN | apply below_drew1) | exact HB.out))) : w.heap.size ≤ gb140)); have n3_ := Aside0.mk ((by rw [hg]; exact (below_size (by repeat (first | (with_reducible first | exact HB.out | apply below_alloc | apply pw_below_drewN | apply below_drew1) | exact HB.out))) : w.heap.size ≤ gb140)); clear HB; have HB := n0_; have BK140 := n1_; have GW140 := n2_; have GE140 := n3_; clear n0_ n1_ n2_ n3_; clear hb hbox hg; have hcz8_0 : w7.cell? ⟨gb140, 0, none⟩ = some (.int .u64 0) := (blk_cell BK140.out 0).trans rfl; have hcz8_1 : w7.cell? ⟨gb140, 1, none⟩ = some (.int .i64 0) := (blk_cell BK140.out 1).trans rfl; have hcz8_2 : w7.cell? ⟨gb140, 2, none⟩ = some (.int .i64 0) := (blk_cell BK140.out 2).trans rfl; have hcz8_3 : w7.cell? ⟨gb140, 3, none⟩ = some (.int .i64 0) := (blk_cell BK140.out 3).trans rfl; have hcz8_4 : w7.cell? ⟨gb140, 4, none⟩ = some (.int .i64 0) := (blk_cell BK140.out 4).trans rfl; have hfz8_0 := blk_frozen BK140.out 0; have hfz8_1 := blk_frozen BK140.out 1; have hfz8_2 := blk_frozen BK140.out 2; have hfz8_3 := blk_frozen BK140.out 3; have hfz8_4 := blk_frozen BK140.out 4))
              repeat (go_quiet (first | ((with_reducible refine gate_dst (N := 4) rfl ?_); (try (refine gate_guard (by rfl) ?_; dsimp only)); refine box_event ?hg (N := 4) ?hd (cs := #[.int .u64 0, .int .i64 0, .int .i64 0, .int .i64 0, .int .i64 0]) (t := 84) ?hr ?_; (case hd => rfl); (case hg => rfl); (case hr => first | (go_simp; done) | (go_simp; rfl)); intro gb140 hg w7 hbox hb; have n0_ := Aside0.mk (below_step (by repeat (first | (with_reducible first | exact HB.out | apply below_alloc | apply pw_below_drewN | apply below_drew1) | exact HB.out)) hb); have n1_ := Aside0.mk (hbox); have n2_ := Aside0.mk ((by rw [hg]; exact (below_size (by repeat (first | (with_reducible first | exact HB.out | apply below_alloc | apply pw_below_drewN | apply below_drew1) | exact HB.out))) : w.heap.size ≤ gb140)); have n3_ := Aside0.mk ((by rw [hg]; exact (below_size (by repeat (first | (with_reducible first | exact HB.out | apply below_alloc | apply pw_below_drewN | apply below_drew1) | exact HB.out))) : w.heap.size ≤ gb140)); clear HB; have HB := n0_; have BK140 := n1_; have GW140 := n2_; have GE140 := n3_; clear n0_ n1_ n2_ n3_; clear hb hbox hg; have hcz8_0 : w7.cell? ⟨gb140, 0, none⟩ = some (.int .u64 0) := (blk_cell BK140.out 0).trans rfl; have hcz8_1 : w7.cell? ⟨gb140, 1, none⟩ = some (.int .i64 0) := (blk_cell BK140.out 1).trans rfl; have hcz8_2 : w7.cell? ⟨gb140, 2, none⟩ = some (.int .i64 0) := (blk_cell BK140.out 2).trans rfl; have hcz8_3 : w7.cell? ⟨gb140, 3, none⟩ = some (.int .i64 0) := (blk_cell BK140.out 3).trans rfl; have hcz8_4 : w7.cell? ⟨gb140, 4, none⟩ = some (.int .i64 0) := (blk_cell BK140.out 4).trans rfl; have hfz8_0 := blk_frozen BK140.out 0; have hfz8_1 := blk_frozen BK140.out 1; have hfz8_2 := blk_frozen BK140.out 2; have hfz8_3 := blk_frozen BK140.out 3; have hfz8_4 := blk_frozen BK140.out 4)); go_upto_region 6 with (first | ((with_reducible refine gate_dst (N := 4) rfl ?_); (try (refine gate_guard (by rfl) ?_; dsimp only)); refine box_event ?hg (N := 4) ?hd (cs := #[.int .u64 0, .int .i64 0, .int .i64 0, .int .i64 0, .int .i64 0]) (t := 84) ?hr ?_; (case hd => rfl); (case hg => rfl); (case hr => first | (go_simp; done) | (go_simp; rfl)); intro gb140 hg w7 hbox hb; have n0_ := Aside0.mk (below_step (by repeat (first | (with_reducible first | exact HB.out | apply below_alloc | apply pw_below_drewN | apply below_drew1) | exact HB.out)) hb); have n1_ := Aside0.mk (hbox); have n2_ := Aside0.mk ((by rw [hg]; exact (below_size (by repeat (first | (with_reducible first | exact HB.out | apply below_alloc | apply pw_below_drewN | apply below_drew1) | exact HB.out))) : w.heap.size ≤ gb140)); have n3_ := Aside0.mk ((by rw [hg]; exact (below_size (by repeat (first | (with_reducible first | exact HB.out | apply below_alloc | apply pw_below_drewN | apply below_drew1) | exact HB.out))) : w.heap.size ≤ gb140)); clear HB; have HB := n0_; have BK140 := n1_; have GW140 := n2_; have GE140 := n3_; clear n0_ n1_ n2_ n3_; clear hb hbox hg; have hcz8_0 : w7.cell? ⟨gb140, 0, none⟩ = some (.int .u64 0) := (blk_cell BK140.out 0).trans rfl; have hcz8_1 : w7.cell? ⟨gb140, 1, none⟩ = some (.int .i64 0) := (blk_cell BK140.out 1).trans rfl; have hcz8_2 : w7.cell? ⟨gb140, 2, none⟩ = some (.int .i64 0) := (blk_cell BK140.out 2).trans rfl; have hcz8_3 : w7.cell? ⟨gb140, 3, none⟩ = some (.int .i64 0) := (blk_cell BK140.out 3).trans rfl; have hcz8_4 : w7.cell? ⟨gb140, 4, none⟩ = some (.int .i64 0) := (blk_cell BK140.out 4).trans rfl; have hfz8_0 := blk_frozen BK140.out 0; have hfz8_1 := blk_frozen BK140.out 1; have hfz8_2 := blk_frozen BK140.out 2; have hfz8_3 := blk_frozen BK140.out 3; have hfz8_4 := blk_frozen BK140.out 4)))
              (try simp only [Act.put, List.setIfInBounds_toArray, List.set_cons_zero, List.set_cons_succ])
              go_cut [5] (fun v5 wc => ∃ (kq : Nat) (x5_5 : Bool), v5 = .bool x5_5 ∧ Aside0 (impl_validMaps.j1 kq l0 x12_1 x5_5 l0 (l0.length : Int) x12_1 ((rd_T84 l0 x12_1).f0) ((rd_T84 l0 x12_1).f1) ((rd_T84 l0 x12_1).f2) ((rd_T84 l0 x12_1).f3) ((rd_T84 l0 x12_1).f4) = some r) ∧ Aside0 (kq ≤ k1) ∧ Aside0 (wc.heap[gb140]? = some (.cells #[.int .u64 ((rd_T84 l0 x12_1).f0), .int .i64 ((rd_T84 l0 x12_1).f1), .int .i64 ((rd_T84 l0 x12_1).f2), .int .i64 ((rd_T84 l0 x12_1).f3), .int .i64 ((rd_T84 l0 x12_1).f4)] 84 (0, 0))) ∧ Aside0 (Below w.heap.size w wc))
              case first =>
                have H := HC6.out
                clear HC6
                by_cases c9 : ((rd_T84 l0 x12_1).f2) = 0
                · rw [if_pos c9] at H
                  have c9b0 : (((rd_T84 l0 x12_1).f2) == 0) = true := beq_iff_eq.mpr c9
                  have c9b1 : (((rd_T84 l0 x12_1).f2) != 0) = false := bne_eq_false_iff_eq.mpr c9
                  clear c9
                  (first | rw [c9b0] | (simp only [i64_w, i32_w]; rw [c9b0]) | skip)
                  by_cases c10 : ((rd_T84 l0 x12_1).f1) ≥ 1
                  · rw [if_pos c10] at H
                    have c10b0 : decide (1 ≤ ((rd_T84 l0 x12_1).f1)) = true := decide_eq_true c10
                    clear c10
                    have H' := Aside0.mk H
                    clear H
                    have hcz11_0 : w7.cell? ⟨gb140, 0, none⟩ = some (.int .u64 0) := (blk_cell BK140.out 0).trans rfl
                    have hcz11_1 : w7.cell? ⟨gb140, 1, none⟩ = some (.int .i64 0) := (blk_cell BK140.out 1).trans rfl
                    have hcz11_2 : w7.cell? ⟨gb140, 2, none⟩ = some (.int .i64 0) := (blk_cell BK140.out 2).trans rfl
                    have hcz11_3 : w7.cell? ⟨gb140, 3, none⟩ = some (.int .i64 0) := (blk_cell BK140.out 3).trans rfl
                    have hcz11_4 : w7.cell? ⟨gb140, 4, none⟩ = some (.int .i64 0) := (blk_cell BK140.out 4).trans rfl
                    have hfz11_0 := blk_frozen BK140.out 0
                    have hfz11_1 := blk_frozen BK140.out 1
                    have hfz11_2 := blk_frozen BK140.out 2
                    have hfz11_3 := blk_frozen BK140.out 3
                    have hfz11_4 := blk_frozen BK140.out 4
                    go_wp2
                    repeat (go_quiet (fail); try go_wp2)
                    go_meet
                    case rel => exact ⟨_, (decide (((rd_T84 l0 x12_1).f1) ≤ 32)), (by first | rfl | (simp; done) | (simp [*]; done)), H', ⟨by have := HK1.out; first | omega | exact Nat.le_refl _⟩, ⟨by (with_reducible repeat (first | refine blk_drewN ?_ _ | refine blk_drew ?_ | refine blk_alloc ?_ _)); refine blk_put (cs := #[.int .u64 ((rd_T84 l0 x12_1).f0), .int .i64 ((rd_T84 l0 x12_1).f1), .int .i64 ((rd_T84 l0 x12_1).f2), .int .i64 ((rd_T84 l0 x12_1).f3), .int .i64 0]) ?_ 4 _ rfl; (with_reducible repeat (first | refine blk_drewN ?_ _ | refine blk_drew ?_ | refine blk_alloc ?_ _)); refine blk_put (cs := #[.int .u64 ((rd_T84 l0 x12_1).f0), .int .i64 ((rd_T84 l0 x12_1).f1), .int .i64 ((rd_T84 l0 x12_1).f2), .int .i64 0, .int .i64 0]) ?_ 3 _ rfl; (with_reducible repeat (first | refine blk_drewN ?_ _ | refine blk_drew ?_ | refine blk_alloc ?_ _)); refine blk_put (cs := #[.int .u64 ((rd_T84 l0 x12_1).f0), .int .i64 ((rd_T84 l0 x12_1).f1), .int .i64 0, .int .i64 0, .int .i64 0]) ?_ 2 _ rfl; (with_reducible repeat (first | refine blk_drewN ?_ _ | refine blk_drew ?_ | refine blk_alloc ?_ _)); refine blk_put (cs := #[.int .u64 ((rd_T84 l0 x12_1).f0), .int .i64 0, .int .i64 0, .int .i64 0, .int .i64 0]) ?_ 1 _ rfl; (with_reducible repeat (first | refine blk_drewN ?_ _ | refine blk_drew ?_ | refine blk_alloc ?_ _)); refine blk_put (cs := #[.int .u64 0, .int .i64 0, .int .i64 0, .int .i64 0, .int .i64 0]) ?_ 0 _ rfl; (with_reducible repeat (first | refine blk_drewN ?_ _ | refine blk_drew ?_ | refine blk_alloc ?_ _)); exact BK140.out⟩, ⟨by repeat (first | (with_reducible first | exact HB.out | apply below_alloc | apply pw_below_drewN | apply below_drew1 | refine below_set ?_ GE140.out) | exact HB.out)⟩⟩
                  · rw [if_neg c10] at H
                    have c10b0 : decide (1 ≤ ((rd_T84 l0 x12_1).f1)) = false := decide_eq_false c10
                    clear c10
                    have H' := Aside0.mk H
                    clear H
                    have hcz12_0 : w7.cell? ⟨gb140, 0, none⟩ = some (.int .u64 0) := (blk_cell BK140.out 0).trans rfl
                    have hcz12_1 : w7.cell? ⟨gb140, 1, none⟩ = some (.int .i64 0) := (blk_cell BK140.out 1).trans rfl
                    have hcz12_2 : w7.cell? ⟨gb140, 2, none⟩ = some (.int .i64 0) := (blk_cell BK140.out 2).trans rfl
                    have hcz12_3 : w7.cell? ⟨gb140, 3, none⟩ = some (.int .i64 0) := (blk_cell BK140.out 3).trans rfl
                    have hcz12_4 : w7.cell? ⟨gb140, 4, none⟩ = some (.int .i64 0) := (blk_cell BK140.out 4).trans rfl
                    have hfz12_0 := blk_frozen BK140.out 0
                    have hfz12_1 := blk_frozen BK140.out 1
                    have hfz12_2 := blk_frozen BK140.out 2
                    have hfz12_3 := blk_frozen BK140.out 3
                    have hfz12_4 := blk_frozen BK140.out 4
                    go_wp2
                    repeat (go_quiet (fail); try go_wp2)
                    go_meet
                    case rel => exact ⟨_, (false), (by first | rfl | (simp; done) | (simp [*]; done)), H', ⟨by have := HK1.out; first | omega | exact Nat.le_refl _⟩, ⟨by (with_reducible repeat (first | refine blk_drewN ?_ _ | refine blk_drew ?_ | refine blk_alloc ?_ _)); refine blk_put (cs := #[.int .u64 ((rd_T84 l0 x12_1).f0), .int .i64 ((rd_T84 l0 x12_1).f1), .int .i64 ((rd_T84 l0 x12_1).f2), .int .i64 ((rd_T84 l0 x12_1).f3), .int .i64 0]) ?_ 4 _ rfl; (with_reducible repeat (first | refine blk_drewN ?_ _ | refine blk_drew ?_ | refine blk_alloc ?_ _)); refine blk_put (cs := #[.int .u64 ((rd_T84 l0 x12_1).f0), .int .i64 ((rd_T84 l0 x12_1).f1), .int .i64 ((rd_T84 l0 x12_1).f2), .int .i64 0, .int .i64 0]) ?_ 3 _ rfl; (with_reducible repeat (first | refine blk_drewN ?_ _ | refine blk_drew ?_ | refine blk_alloc ?_ _)); refine blk_put (cs := #[.int .u64 ((rd_T84 l0 x12_1).f0), .int .i64 ((rd_T84 l0 x12_1).f1), .int .i64 0, .int .i64 0, .int .i64 0]) ?_ 2 _ rfl; (with_reducible repeat (first | refine blk_drewN ?_ _ | refine blk_drew ?_ | refine blk_alloc ?_ _)); refine blk_put (cs := #[.int .u64 ((rd_T84 l0 x12_1).f0), .int .i64 0, .int .i64 0, .int .i64 0, .int .i64 0]) ?_ 1 _ rfl; (with_reducible repeat (first | refine blk_drewN ?_ _ | refine blk_drew ?_ | refine blk_alloc ?_ _)); refine blk_put (cs := #[.int .u64 0, .int .i64 0, .int .i64 0, .int .i64 0, .int .i64 0]) ?_ 0 _ rfl; (with_reducible repeat (first | refine blk_drewN ?_ _ | refine blk_drew ?_ | refine blk_alloc ?_ _)); exact BK140.out⟩, ⟨by repeat (first | (with_reducible first | exact HB.out | apply below_alloc | apply pw_below_drewN | apply below_drew1 | refine below_set ?_ GE140.out) | exact HB.out)⟩⟩
                · rw [if_neg c9] at H
                  have c9b0 : (((rd_T84 l0 x12_1).f2) == 0) = false := beq_eq_false_iff_ne.mpr c9
                  have c9b1 : (((rd_T84 l0 x12_1).f2) != 0) = true := bne_iff_ne.mpr c9
                  (first | rw [c9b0] | (simp only [i64_w, i32_w]; rw [c9b0]) | skip)
                  have H' := Aside0.mk H
                  clear H
                  have hcz13_0 : w7.cell? ⟨gb140, 0, none⟩ = some (.int .u64 0) := (blk_cell BK140.out 0).trans rfl
                  have hcz13_1 : w7.cell? ⟨gb140, 1, none⟩ = some (.int .i64 0) := (blk_cell BK140.out 1).trans rfl
                  have hcz13_2 : w7.cell? ⟨gb140, 2, none⟩ = some (.int .i64 0) := (blk_cell BK140.out 2).trans rfl
                  have hcz13_3 : w7.cell? ⟨gb140, 3, none⟩ = some (.int .i64 0) := (blk_cell BK140.out 3).trans rfl
                  have hcz13_4 : w7.cell? ⟨gb140, 4, none⟩ = some (.int .i64 0) := (blk_cell BK140.out 4).trans rfl
                  have hfz13_0 := blk_frozen BK140.out 0
                  have hfz13_1 := blk_frozen BK140.out 1
                  have hfz13_2 := blk_frozen BK140.out 2
                  have hfz13_3 := blk_frozen BK140.out 3
                  have hfz13_4 := blk_frozen BK140.out 4
                  go_wp2
                  repeat (go_quiet (fail); try go_wp2)
                  go_meet
                  case rel => exact ⟨_, (false), (by first | rfl | (simp; done) | (simp [*]; done)), H', ⟨by have := HK1.out; first | omega | exact Nat.le_refl _⟩, ⟨by (with_reducible repeat (first | refine blk_drewN ?_ _ | refine blk_drew ?_ | refine blk_alloc ?_ _)); refine blk_put (cs := #[.int .u64 ((rd_T84 l0 x12_1).f0), .int .i64 ((rd_T84 l0 x12_1).f1), .int .i64 ((rd_T84 l0 x12_1).f2), .int .i64 ((rd_T84 l0 x12_1).f3), .int .i64 0]) ?_ 4 _ rfl; (with_reducible repeat (first | refine blk_drewN ?_ _ | refine blk_drew ?_ | refine blk_alloc ?_ _)); refine blk_put (cs := #[.int .u64 ((rd_T84 l0 x12_1).f0), .int .i64 ((rd_T84 l0 x12_1).f1), .int .i64 ((rd_T84 l0 x12_1).f2), .int .i64 0, .int .i64 0]) ?_ 3 _ rfl; (with_reducible repeat (first | refine blk_drewN ?_ _ | refine blk_drew ?_ | refine blk_alloc ?_ _)); refine blk_put (cs := #[.int .u64 ((rd_T84 l0 x12_1).f0), .int .i64 ((rd_T84 l0 x12_1).f1), .int .i64 0, .int .i64 0, .int .i64 0]) ?_ 2 _ rfl; (with_reducible repeat (first | refine blk_drewN ?_ _ | refine blk_drew ?_ | refine blk_alloc ?_ _)); refine blk_put (cs := #[.int .u64 ((rd_T84 l0 x12_1).f0), .int .i64 0, .int .i64 0, .int .i64 0, .int .i64 0]) ?_ 1 _ rfl; (with_reducible repeat (first | refine blk_drewN ?_ _ | refine blk_drew ?_ | refine blk_alloc ?_ _)); refine blk_put (cs := #[.int .u64 0, .int .i64 0, .int .i64 0, .int .i64 0, .int .i64 0]) ?_ 0 _ rfl; (with_reducible repeat (first | refine blk_drewN ?_ _ | refine blk_drew ?_ | refine blk_alloc ?_ _)); exact BK140.out⟩, ⟨by repeat (first | (with_reducible first | exact HB.out | apply below_alloc | apply pw_below_drewN | apply below_drew1 | refine below_set ?_ GE140.out) | exact HB.out)⟩⟩
              case rest =>
                clear HC6
                try clear c1
                try clear p1
                try clear q1
                try clear hx1
                try clear c2
                try clear c2b0
                try clear c2b1
                try clear p2
                try clear c3
                try clear c3b0
                try clear c4
                try clear c4b0
                try clear c5
                try clear c5b0
                try clear c7
                try clear c9
                try clear c9b0
                try clear c9b1
                try clear c10
                try clear c10b0
                try clear p13
                try clear q13
                try clear hx13
                try clear hcz11_0
                try clear hcz11_1
                try clear hcz11_2
                try clear hcz11_3
                try clear hcz11_4
                try clear hcz12_0
                try clear hcz12_1
                try clear hcz12_2
                try clear hcz12_3
                try clear hcz12_4
                try clear hcz13_0
                try clear hcz13_1
                try clear hcz13_2
                try clear hcz13_3
                try clear hcz13_4
                try clear hcz8_0
                try clear hcz8_1
                try clear hcz8_2
                try clear hcz8_3
                try clear hcz8_4
                try clear hfz11_0
                try clear hfz11_1
                try clear hfz11_2
                try clear hfz11_3
                try clear hfz11_4
                try clear hfz12_0
                try clear hfz12_1
                try clear hfz12_2
                try clear hfz12_3
                try clear hfz12_4
                try clear hfz13_0
                try clear hfz13_1
                try clear hfz13_2
                try clear hfz13_3
                try clear hfz13_4
                try clear hfz8_0
                try clear hfz8_1
                try clear hfz8_2
                try clear hfz8_3
                try clear hfz8_4
                try clear hx139_0
                try clear hx139_1
                try clear hx139_2
                try clear hx139_3
                try clear hx139_4
                try clear p139
                try clear p2
                try clear q139
                obtain ⟨kq, x5_5, rfl, HA, HJ5, BK140, HB⟩ := hcut
                cases kq with
                | zero => exact absurd HA.out (by simp [impl_validMaps.j1])
                | succ kj5 =>
                  have H := HA.out
                  clear HA
                  simp only [impl_validMaps.j1] at H
                  have HC14 := Aside0.mk H
                  clear H
                  go_upto_region 7 with (fail)
                  repeat (go_quiet (fail); go_upto_region 7 with (fail))
                  go_cut [6] (fun v6 wc => ∃ (kq : Nat) (x6_13 : Bool), v6 = .bool x6_13 ∧ Aside0 (impl_validMaps.j2 kq l0 x12_1 x5_5 x6_13 l0 (l0.length : Int) x12_1 ((rd_T84 l0 x12_1).f0) ((rd_T84 l0 x12_1).f1) ((rd_T84 l0 x12_1).f2) ((rd_T84 l0 x12_1).f3) ((rd_T84 l0 x12_1).f4) = some r) ∧ Aside0 (kq ≤ kj5) ∧ Aside0 (wc.heap[gb140]? = some (.cells #[.int .u64 ((rd_T84 l0 x12_1).f0), .int .i64 ((rd_T84 l0 x12_1).f1), .int .i64 ((rd_T84 l0 x12_1).f2), .int .i64 ((rd_T84 l0 x12_1).f3), .int .i64 ((rd_T84 l0 x12_1).f4)] 84 (0, 0))) ∧ Aside0 (Below w.heap.size w wc))
                  case first =>
                    have H := HC14.out
                    clear HC14
                    by_cases c15 : ((rd_T84 l0 x12_1).f2) = 1
                    · rw [if_pos c15] at H
                      have c15b0 : (((rd_T84 l0 x12_1).f2) == 1) = true := beq_iff_eq.mpr c15
                      have c15b1 : (((rd_T84 l0 x12_1).f2) != 1) = false := bne_eq_false_iff_eq.mpr c15
                      clear c15
                      (first | rw [c15b0] | (simp only [i64_w, i32_w]; rw [c15b0]) | skip)
                      by_cases c16 : ((rd_T84 l0 x12_1).f1) = 0
                      · rw [if_pos c16] at H
                        have c16b0 : (((rd_T84 l0 x12_1).f1) == 0) = true := beq_iff_eq.mpr c16
                        have c16b1 : (((rd_T84 l0 x12_1).f1) != 0) = false := bne_eq_false_iff_eq.mpr c16
                        clear c16
                        have H' := Aside0.mk H
                        clear H
                        have hcz17_0 : wc.cell? ⟨gb140, 0, none⟩ = some (.int .u64 ((rd_T84 l0 x12_1).f0)) := (blk_cell BK140.out 0).trans rfl
                        have hcz17_1 : wc.cell? ⟨gb140, 1, none⟩ = some (.int .i64 ((rd_T84 l0 x12_1).f1)) := (blk_cell BK140.out 1).trans rfl
                        have hcz17_2 : wc.cell? ⟨gb140, 2, none⟩ = some (.int .i64 ((rd_T84 l0 x12_1).f2)) := (blk_cell BK140.out 2).trans rfl
                        have hcz17_3 : wc.cell? ⟨gb140, 3, none⟩ = some (.int .i64 ((rd_T84 l0 x12_1).f3)) := (blk_cell BK140.out 3).trans rfl
                        have hcz17_4 : wc.cell? ⟨gb140, 4, none⟩ = some (.int .i64 ((rd_T84 l0 x12_1).f4)) := (blk_cell BK140.out 4).trans rfl
                        have hfz17_0 := blk_frozen BK140.out 0
                        have hfz17_1 := blk_frozen BK140.out 1
                        have hfz17_2 := blk_frozen BK140.out 2
                        have hfz17_3 := blk_frozen BK140.out 3
                        have hfz17_4 := blk_frozen BK140.out 4
                        go_wp2
                        repeat (go_quiet (fail); try go_wp2)
                        go_meet
                        case rel => exact ⟨_, ((x12_1 == (wrap64 ((l0.length : Int) - 1)))), (by first | rfl | (simp; done) | (simp [*]; done)), H', ⟨by have := HK1.out; have := HJ5.out; first | omega | exact Nat.le_refl _⟩, ⟨by (with_reducible repeat (first | refine blk_drewN ?_ _ | refine blk_drew ?_ | refine blk_alloc ?_ _)); exact BK140.out⟩, ⟨by repeat (first | (with_reducible first | exact HB.out | apply below_alloc | apply pw_below_drewN | apply below_drew1 | refine below_set ?_ GE140.out) | exact HB.out)⟩⟩
                      · rw [if_neg c16] at H
                        have c16b0 : (((rd_T84 l0 x12_1).f1) == 0) = false := beq_eq_false_iff_ne.mpr c16
                        have c16b1 : (((rd_T84 l0 x12_1).f1) != 0) = true := bne_iff_ne.mpr c16
                        have H' := Aside0.mk H
                        clear H
                        have hcz18_0 : wc.cell? ⟨gb140, 0, none⟩ = some (.int .u64 ((rd_T84 l0 x12_1).f0)) := (blk_cell BK140.out 0).trans rfl
                        have hcz18_1 : wc.cell? ⟨gb140, 1, none⟩ = some (.int .i64 ((rd_T84 l0 x12_1).f1)) := (blk_cell BK140.out 1).trans rfl
                        have hcz18_2 : wc.cell? ⟨gb140, 2, none⟩ = some (.int .i64 ((rd_T84 l0 x12_1).f2)) := (blk_cell BK140.out 2).trans rfl
                        have hcz18_3 : wc.cell? ⟨gb140, 3, none⟩ = some (.int .i64 ((rd_T84 l0 x12_1).f3)) := (blk_cell BK140.out 3).trans rfl
                        have hcz18_4 : wc.cell? ⟨gb140, 4, none⟩ = some (.int .i64 ((rd_T84 l0 x12_1).f4)) := (blk_cell BK140.out 4).trans rfl
                        have hfz18_0 := blk_frozen BK140.out 0
                        have hfz18_1 := blk_frozen BK140.out 1
                        have hfz18_2 := blk_frozen BK140.out 2
                        have hfz18_3 := blk_frozen BK140.out 3
                        have hfz18_4 := blk_frozen BK140.out 4
                        go_wp2
                        repeat (go_quiet (fail); try go_wp2)
                        go_meet
                        case rel => exact ⟨_, (false), (by first | rfl | (simp; done) | (simp [*]; done)), H', ⟨by have := HK1.out; have := HJ5.out; first | omega | exact Nat.le_refl _⟩, ⟨by (with_reducible repeat (first | refine blk_drewN ?_ _ | refine blk_drew ?_ | refine blk_alloc ?_ _)); exact BK140.out⟩, ⟨by repeat (first | (with_reducible first | exact HB.out | apply below_alloc | apply pw_below_drewN | apply below_drew1 | refine below_set ?_ GE140.out) | exact HB.out)⟩⟩
                    · rw [if_neg c15] at H
                      have c15b0 : (((rd_T84 l0 x12_1).f2) == 1) = false := beq_eq_false_iff_ne.mpr c15
                      have c15b1 : (((rd_T84 l0 x12_1).f2) != 1) = true := bne_iff_ne.mpr c15
                      (first | rw [c15b0] | (simp only [i64_w, i32_w]; rw [c15b0]) | skip)
                      have H' := Aside0.mk H
                      clear H
                      have hcz19_0 : wc.cell? ⟨gb140, 0, none⟩ = some (.int .u64 ((rd_T84 l0 x12_1).f0)) := (blk_cell BK140.out 0).trans rfl
                      have hcz19_1 : wc.cell? ⟨gb140, 1, none⟩ = some (.int .i64 ((rd_T84 l0 x12_1).f1)) := (blk_cell BK140.out 1).trans rfl
                      have hcz19_2 : wc.cell? ⟨gb140, 2, none⟩ = some (.int .i64 ((rd_T84 l0 x12_1).f2)) := (blk_cell BK140.out 2).trans rfl
                      have hcz19_3 : wc.cell? ⟨gb140, 3, none⟩ = some (.int .i64 ((rd_T84 l0 x12_1).f3)) := (blk_cell BK140.out 3).trans rfl
                      have hcz19_4 : wc.cell? ⟨gb140, 4, none⟩ = some (.int .i64 ((rd_T84 l0 x12_1).f4)) := (blk_cell BK140.out 4).trans rfl
                      have hfz19_0 := blk_frozen BK140.out 0
                      have hfz19_1 := blk_frozen BK140.out 1
                      have hfz19_2 := blk_frozen BK140.out 2
                      have hfz19_3 := blk_frozen BK140.out 3
                      have hfz19_4 := blk_frozen BK140.out 4
                      go_wp2
                      repeat (go_quiet (fail); try go_wp2)
                      go_meet
                      case rel => exact ⟨_, (false), (by first | rfl | (simp; done) | (simp [*]; done)), H', ⟨by have := HK1.out; have := HJ5.out; first | omega | exact Nat.le_refl _⟩, ⟨by (with_reducible repeat (first | refine blk_drewN ?_ _ | refine blk_drew ?_ | refine blk_alloc ?_ _)); exact BK140.out⟩, ⟨by repeat (first | (with_reducible first | exact HB.out | apply below_alloc | apply pw_below_drewN | apply below_drew1 | refine below_set ?_ GE140.out) | exact HB.out)⟩⟩
                  case rest =>
                    clear HC14
                    try clear c1
                    try clear p1
                    try clear q1
                    try clear hx1
                    try clear c2
                    try clear c2b0
                    try clear c2b1
                    try clear p2
                    try clear c3
                    try clear c3b0
                    try clear c4
                    try clear c4b0
                    try clear c5
                    try clear c5b0
                    try clear p6
                    try clear c7
                    try clear c9
                    try clear c9b0
                    try clear c9b1
                    try clear c10
                    try clear c10b0
                    try clear p13
                    try clear q13
                    try clear hx13
                    try clear c15
                    try clear c15b0
                    try clear c15b1
                    try clear c16
                    try clear c16b0
                    try clear c16b1
                    try clear hcz11_0
                    try clear hcz11_1
                    try clear hcz11_2
                    try clear hcz11_3
                    try clear hcz11_4
                    try clear hcz12_0
                    try clear hcz12_1
                    try clear hcz12_2
                    try clear hcz12_3
                    try clear hcz12_4
                    try clear hcz13_0
                    try clear hcz13_1
                    try clear hcz13_2
                    try clear hcz13_3
                    try clear hcz13_4
                    try clear hcz17_0
                    try clear hcz17_1
                    try clear hcz17_2
                    try clear hcz17_3
                    try clear hcz17_4
                    try clear hcz18_0
                    try clear hcz18_1
                    try clear hcz18_2
                    try clear hcz18_3
                    try clear hcz18_4
                    try clear hcz19_0
                    try clear hcz19_1
                    try clear hcz19_2
                    try clear hcz19_3
                    try clear hcz19_4
                    try clear hcz8_0
                    try clear hcz8_1
                    try clear hcz8_2
                    try clear hcz8_3
                    try clear hcz8_4
                    try clear hfz11_0
                    try clear hfz11_1
                    try clear hfz11_2
                    try clear hfz11_3
                    try clear hfz11_4
                    try clear hfz12_0
                    try clear hfz12_1
                    try clear hfz12_2
                    try clear hfz12_3
                    try clear hfz12_4
                    try clear hfz13_0
                    try clear hfz13_1
                    try clear hfz13_2
                    try clear hfz13_3
                    try clear hfz13_4
                    try clear hfz17_0
                    try clear hfz17_1
                    try clear hfz17_2
                    try clear hfz17_3
                    try clear hfz17_4
                    try clear hfz18_0
                    try clear hfz18_1
                    try clear hfz18_2
                    try clear hfz18_3
                    try clear hfz18_4
                    try clear hfz19_0
                    try clear hfz19_1
                    try clear hfz19_2
                    try clear hfz19_3
                    try clear hfz19_4
                    try clear hfz8_0
                    try clear hfz8_1
                    try clear hfz8_2
                    try clear hfz8_3
                    try clear hfz8_4
                    try clear hx139_0
                    try clear hx139_1
                    try clear hx139_2
                    try clear hx139_3
                    try clear hx139_4
                    try clear p1
                    try clear p13
                    try clear p139
                    try clear p2
                    try clear q1
                    try clear q13
                    try clear q139
                    obtain ⟨kq, x6_13, rfl, HA, HJ13, BK140, HB⟩ := hcut
                    cases kq with
                    | zero => exact absurd HA.out (by simp [impl_validMaps.j2])
                    | succ kj13 =>
                      have H := HA.out
                      clear HA
                      simp only [impl_validMaps.j2] at H
                      have HC20 := Aside0.mk H
                      clear H
                      go_upto_region 8 with (fail)
                      repeat (go_quiet (fail); go_upto_region 8 with (fail))
                      go_cut [75] (fun v75 wc => ∃ (kq : Nat) (x75_19 : Bool), v75 = .bool x75_19 ∧ Aside0 (impl_validMaps.j3 kq l0 x12_1 l0 (l0.length : Int) x12_1 x75_19 ((rd_T84 l0 x12_1).f0) ((rd_T84 l0 x12_1).f1) ((rd_T84 l0 x12_1).f2) ((rd_T84 l0 x12_1).f3) ((rd_T84 l0 x12_1).f4) = some r) ∧ Aside0 (kq ≤ kj13) ∧ Aside0 (wc.heap[gb140]? = some (.cells #[.int .u64 ((rd_T84 l0 x12_1).f0), .int .i64 ((rd_T84 l0 x12_1).f1), .int .i64 ((rd_T84 l0 x12_1).f2), .int .i64 ((rd_T84 l0 x12_1).f3), .int .i64 ((rd_T84 l0 x12_1).f4)] 84 (0, 0))) ∧ Aside0 (Below w.heap.size w wc))
                      case first =>
                        have H := HC20.out
                        clear HC20
                        by_cases c21 : ((rd_T84 l0 x12_1).f0) > 4611686018427387904
                        · rw [if_pos c21] at H
                          have c21b0 : decide (4611686018427387904 < ((rd_T84 l0 x12_1).f0)) = true := decide_eq_true c21
                          clear c21
                          (first | rw [c21b0] | (simp only [i64_w, i32_w]; rw [c21b0]) | skip)
                          have H' := Aside0.mk H
                          clear H
                          have hcz22_0 : wc.cell? ⟨gb140, 0, none⟩ = some (.int .u64 ((rd_T84 l0 x12_1).f0)) := (blk_cell BK140.out 0).trans rfl
                          have hcz22_1 : wc.cell? ⟨gb140, 1, none⟩ = some (.int .i64 ((rd_T84 l0 x12_1).f1)) := (blk_cell BK140.out 1).trans rfl
                          have hcz22_2 : wc.cell? ⟨gb140, 2, none⟩ = some (.int .i64 ((rd_T84 l0 x12_1).f2)) := (blk_cell BK140.out 2).trans rfl
                          have hcz22_3 : wc.cell? ⟨gb140, 3, none⟩ = some (.int .i64 ((rd_T84 l0 x12_1).f3)) := (blk_cell BK140.out 3).trans rfl
                          have hcz22_4 : wc.cell? ⟨gb140, 4, none⟩ = some (.int .i64 ((rd_T84 l0 x12_1).f4)) := (blk_cell BK140.out 4).trans rfl
                          have hfz22_0 := blk_frozen BK140.out 0
                          have hfz22_1 := blk_frozen BK140.out 1
                          have hfz22_2 := blk_frozen BK140.out 2
                          have hfz22_3 := blk_frozen BK140.out 3
                          have hfz22_4 := blk_frozen BK140.out 4
                          go_wp2
                          repeat (go_quiet (fail); try go_wp2)
                          go_meet
                          case rel => exact ⟨_, (true), (by first | rfl | (simp; done) | (simp [*]; done)), H', ⟨by have := HK1.out; have := HJ5.out; have := HJ13.out; first | omega | exact Nat.le_refl _⟩, ⟨by (with_reducible repeat (first | refine blk_drewN ?_ _ | refine blk_drew ?_ | refine blk_alloc ?_ _)); exact BK140.out⟩, ⟨by repeat (first | (with_reducible first | exact HB.out | apply below_alloc | apply pw_below_drewN | apply below_drew1 | refine below_set ?_ GE140.out) | exact HB.out)⟩⟩
                        · rw [if_neg c21] at H
                          have c21b0 : decide (4611686018427387904 < ((rd_T84 l0 x12_1).f0)) = false := decide_eq_false c21
                          clear c21
                          (first | rw [c21b0] | (simp only [i64_w, i32_w]; rw [c21b0]) | skip)
                          by_cases c23 : x5_5 = true
                          · subst c23
                            have H1 : (if ((rd_T84 l0 x12_1).f3) < 1 then (impl_validMaps.j3 kj13 l0 x12_1 l0 (l0.length : Int) x12_1 true ((rd_T84 l0 x12_1).f0) ((rd_T84 l0 x12_1).f1) ((rd_T84 l0 x12_1).f2) ((rd_T84 l0 x12_1).f3) ((rd_T84 l0 x12_1).f4)) else (if ((rd_T84 l0 x12_1).f3) > 255 then (impl_validMaps.j3 kj13 l0 x12_1 l0 (l0.length : Int) x12_1 true ((rd_T84 l0 x12_1).f0) ((rd_T84 l0 x12_1).f1) ((rd_T84 l0 x12_1).f2) ((rd_T84 l0 x12_1).f3) ((rd_T84 l0 x12_1).f4)) else (if ((rd_T84 l0 x12_1).f4) = 0 then (impl_validMaps.j3 kj13 l0 x12_1 l0 (l0.length : Int) x12_1 false ((rd_T84 l0 x12_1).f0) ((rd_T84 l0 x12_1).f1) ((rd_T84 l0 x12_1).f2) ((rd_T84 l0 x12_1).f3) ((rd_T84 l0 x12_1).f4)) else (impl_validMaps.j3 kj13 l0 x12_1 l0 (l0.length : Int) x12_1 (((rd_T84 l0 x12_1).f4) != 1) ((rd_T84 l0 x12_1).f0) ((rd_T84 l0 x12_1).f1) ((rd_T84 l0 x12_1).f2) ((rd_T84 l0 x12_1).f3) ((rd_T84 l0 x12_1).f4))))) = some r := by rw [if_pos rfl] at H; exact H
                            clear H
                            have H := H1
                            clear H1
                            by_cases c24 : ((rd_T84 l0 x12_1).f3) < 1
                            · rw [if_pos c24] at H
                              have c24b0 : decide (((rd_T84 l0 x12_1).f3) < 1) = true := decide_eq_true c24
                              clear c24
                              have H' := Aside0.mk H
                              clear H
                              have hcz25_0 : wc.cell? ⟨gb140, 0, none⟩ = some (.int .u64 ((rd_T84 l0 x12_1).f0)) := (blk_cell BK140.out 0).trans rfl
                              have hcz25_1 : wc.cell? ⟨gb140, 1, none⟩ = some (.int .i64 ((rd_T84 l0 x12_1).f1)) := (blk_cell BK140.out 1).trans rfl
                              have hcz25_2 : wc.cell? ⟨gb140, 2, none⟩ = some (.int .i64 ((rd_T84 l0 x12_1).f2)) := (blk_cell BK140.out 2).trans rfl
                              have hcz25_3 : wc.cell? ⟨gb140, 3, none⟩ = some (.int .i64 ((rd_T84 l0 x12_1).f3)) := (blk_cell BK140.out 3).trans rfl
                              have hcz25_4 : wc.cell? ⟨gb140, 4, none⟩ = some (.int .i64 ((rd_T84 l0 x12_1).f4)) := (blk_cell BK140.out 4).trans rfl
                              have hfz25_0 := blk_frozen BK140.out 0
                              have hfz25_1 := blk_frozen BK140.out 1
                              have hfz25_2 := blk_frozen BK140.out 2
                              have hfz25_3 := blk_frozen BK140.out 3
                              have hfz25_4 := blk_frozen BK140.out 4
                              go_wp2
                              repeat (go_quiet (fail); try go_wp2)
                              go_meet
                              case rel => exact ⟨_, (true), (by first | rfl | (simp; done) | (simp [*]; done)), H', ⟨by have := HK1.out; have := HJ5.out; have := HJ13.out; first | omega | exact Nat.le_refl _⟩, ⟨by (with_reducible repeat (first | refine blk_drewN ?_ _ | refine blk_drew ?_ | refine blk_alloc ?_ _)); exact BK140.out⟩, ⟨by repeat (first | (with_reducible first | exact HB.out | apply below_alloc | apply pw_below_drewN | apply below_drew1 | refine below_set ?_ GE140.out) | exact HB.out)⟩⟩
                            · rw [if_neg c24] at H
                              have c24b0 : decide (((rd_T84 l0 x12_1).f3) < 1) = false := decide_eq_false c24
                              clear c24
                              by_cases c26 : ((rd_T84 l0 x12_1).f3) > 255
                              · rw [if_pos c26] at H
                                have c26b0 : decide (255 < ((rd_T84 l0 x12_1).f3)) = true := decide_eq_true c26
                                clear c26
                                have H' := Aside0.mk H
                                clear H
                                have hcz27_0 : wc.cell? ⟨gb140, 0, none⟩ = some (.int .u64 ((rd_T84 l0 x12_1).f0)) := (blk_cell BK140.out 0).trans rfl
                                have hcz27_1 : wc.cell? ⟨gb140, 1, none⟩ = some (.int .i64 ((rd_T84 l0 x12_1).f1)) := (blk_cell BK140.out 1).trans rfl
                                have hcz27_2 : wc.cell? ⟨gb140, 2, none⟩ = some (.int .i64 ((rd_T84 l0 x12_1).f2)) := (blk_cell BK140.out 2).trans rfl
                                have hcz27_3 : wc.cell? ⟨gb140, 3, none⟩ = some (.int .i64 ((rd_T84 l0 x12_1).f3)) := (blk_cell BK140.out 3).trans rfl
                                have hcz27_4 : wc.cell? ⟨gb140, 4, none⟩ = some (.int .i64 ((rd_T84 l0 x12_1).f4)) := (blk_cell BK140.out 4).trans rfl
                                have hfz27_0 := blk_frozen BK140.out 0
                                have hfz27_1 := blk_frozen BK140.out 1
                                have hfz27_2 := blk_frozen BK140.out 2
                                have hfz27_3 := blk_frozen BK140.out 3
                                have hfz27_4 := blk_frozen BK140.out 4
                                go_wp2
                                repeat (go_quiet (fail); try go_wp2)
                                go_meet
                                case rel => exact ⟨_, (true), (by first | rfl | (simp; done) | (simp [*]; done)), H', ⟨by have := HK1.out; have := HJ5.out; have := HJ13.out; first | omega | exact Nat.le_refl _⟩, ⟨by (with_reducible repeat (first | refine blk_drewN ?_ _ | refine blk_drew ?_ | refine blk_alloc ?_ _)); exact BK140.out⟩, ⟨by repeat (first | (with_reducible first | exact HB.out | apply below_alloc | apply pw_below_drewN | apply below_drew1 | refine below_set ?_ GE140.out) | exact HB.out)⟩⟩
                              · rw [if_neg c26] at H
                                have c26b0 : decide (255 < ((rd_T84 l0 x12_1).f3)) = false := decide_eq_false c26
                                clear c26
                                by_cases c28 : ((rd_T84 l0 x12_1).f4) = 0
                                · rw [if_pos c28] at H
                                  have c28b0 : (((rd_T84 l0 x12_1).f4) == 0) = true := beq_iff_eq.mpr c28
                                  have c28b1 : (((rd_T84 l0 x12_1).f4) != 0) = false := bne_eq_false_iff_eq.mpr c28
                                  clear c28
                                  have H' := Aside0.mk H
                                  clear H
                                  have hcz29_0 : wc.cell? ⟨gb140, 0, none⟩ = some (.int .u64 ((rd_T84 l0 x12_1).f0)) := (blk_cell BK140.out 0).trans rfl
                                  have hcz29_1 : wc.cell? ⟨gb140, 1, none⟩ = some (.int .i64 ((rd_T84 l0 x12_1).f1)) := (blk_cell BK140.out 1).trans rfl
                                  have hcz29_2 : wc.cell? ⟨gb140, 2, none⟩ = some (.int .i64 ((rd_T84 l0 x12_1).f2)) := (blk_cell BK140.out 2).trans rfl
                                  have hcz29_3 : wc.cell? ⟨gb140, 3, none⟩ = some (.int .i64 ((rd_T84 l0 x12_1).f3)) := (blk_cell BK140.out 3).trans rfl
                                  have hcz29_4 : wc.cell? ⟨gb140, 4, none⟩ = some (.int .i64 ((rd_T84 l0 x12_1).f4)) := (blk_cell BK140.out 4).trans rfl
                                  have hfz29_0 := blk_frozen BK140.out 0
                                  have hfz29_1 := blk_frozen BK140.out 1
                                  have hfz29_2 := blk_frozen BK140.out 2
                                  have hfz29_3 := blk_frozen BK140.out 3
                                  have hfz29_4 := blk_frozen BK140.out 4
                                  go_wp2
                                  repeat (go_quiet (fail); try go_wp2)
                                  go_meet
                                  case rel => exact ⟨_, (false), (by first | rfl | (simp; done) | (simp [*]; done)), H', ⟨by have := HK1.out; have := HJ5.out; have := HJ13.out; first | omega | exact Nat.le_refl _⟩, ⟨by (with_reducible repeat (first | refine blk_drewN ?_ _ | refine blk_drew ?_ | refine blk_alloc ?_ _)); exact BK140.out⟩, ⟨by repeat (first | (with_reducible first | exact HB.out | apply below_alloc | apply pw_below_drewN | apply below_drew1 | refine below_set ?_ GE140.out) | exact HB.out)⟩⟩
                                · rw [if_neg c28] at H
                                  have c28b0 : (((rd_T84 l0 x12_1).f4) == 0) = false := beq_eq_false_iff_ne.mpr c28
                                  have c28b1 : (((rd_T84 l0 x12_1).f4) != 0) = true := bne_iff_ne.mpr c28
                                  have H' := Aside0.mk H
                                  clear H
                                  have hcz30_0 : wc.cell? ⟨gb140, 0, none⟩ = some (.int .u64 ((rd_T84 l0 x12_1).f0)) := (blk_cell BK140.out 0).trans rfl
                                  have hcz30_1 : wc.cell? ⟨gb140, 1, none⟩ = some (.int .i64 ((rd_T84 l0 x12_1).f1)) := (blk_cell BK140.out 1).trans rfl
                                  have hcz30_2 : wc.cell? ⟨gb140, 2, none⟩ = some (.int .i64 ((rd_T84 l0 x12_1).f2)) := (blk_cell BK140.out 2).trans rfl
                                  have hcz30_3 : wc.cell? ⟨gb140, 3, none⟩ = some (.int .i64 ((rd_T84 l0 x12_1).f3)) := (blk_cell BK140.out 3).trans rfl
                                  have hcz30_4 : wc.cell? ⟨gb140, 4, none⟩ = some (.int .i64 ((rd_T84 l0 x12_1).f4)) := (blk_cell BK140.out 4).trans rfl
                                  have hfz30_0 := blk_frozen BK140.out 0
                                  have hfz30_1 := blk_frozen BK140.out 1
                                  have hfz30_2 := blk_frozen BK140.out 2
                                  have hfz30_3 := blk_frozen BK140.out 3
                                  have hfz30_4 := blk_frozen BK140.out 4
                                  go_wp2
                                  repeat (go_quiet (fail); try go_wp2)
                                  go_meet
                                  case rel => exact ⟨_, ((((rd_T84 l0 x12_1).f4) != 1)), (by first | rfl | (simp; done) | (simp [*]; done)), H', ⟨by have := HK1.out; have := HJ5.out; have := HJ13.out; first | omega | exact Nat.le_refl _⟩, ⟨by (with_reducible repeat (first | refine blk_drewN ?_ _ | refine blk_drew ?_ | refine blk_alloc ?_ _)); exact BK140.out⟩, ⟨by repeat (first | (with_reducible first | exact HB.out | apply below_alloc | apply pw_below_drewN | apply below_drew1 | refine below_set ?_ GE140.out) | exact HB.out)⟩⟩
                          · replace c23 := Bool.eq_false_iff.mpr c23
                            subst c23
                            have H1 : (if x6_13 = true then (if ((rd_T84 l0 x12_1).f3) < 1 then (impl_validMaps.j3 kj13 l0 x12_1 l0 (l0.length : Int) x12_1 true ((rd_T84 l0 x12_1).f0) ((rd_T84 l0 x12_1).f1) ((rd_T84 l0 x12_1).f2) ((rd_T84 l0 x12_1).f3) ((rd_T84 l0 x12_1).f4)) else (if ((rd_T84 l0 x12_1).f3) > 255 then (impl_validMaps.j3 kj13 l0 x12_1 l0 (l0.length : Int) x12_1 true ((rd_T84 l0 x12_1).f0) ((rd_T84 l0 x12_1).f1) ((rd_T84 l0 x12_1).f2) ((rd_T84 l0 x12_1).f3) ((rd_T84 l0 x12_1).f4)) else (if ((rd_T84 l0 x12_1).f4) = 0 then (impl_validMaps.j3 kj13 l0 x12_1 l0 (l0.length : Int) x12_1 false ((rd_T84 l0 x12_1).f0) ((rd_T84 l0 x12_1).f1) ((rd_T84 l0 x12_1).f2) ((rd_T84 l0 x12_1).f3) ((rd_T84 l0 x12_1).f4)) else (impl_validMaps.j3 kj13 l0 x12_1 l0 (l0.length : Int) x12_1 (((rd_T84 l0 x12_1).f4) != 1) ((rd_T84 l0 x12_1).f0) ((rd_T84 l0 x12_1).f1) ((rd_T84 l0 x12_1).f2) ((rd_T84 l0 x12_1).f3) ((rd_T84 l0 x12_1).f4))))) else (impl_validMaps.j3 kj13 l0 x12_1 l0 (l0.length : Int) x12_1 true ((rd_T84 l0 x12_1).f0) ((rd_T84 l0 x12_1).f1) ((rd_T84 l0 x12_1).f2) ((rd_T84 l0 x12_1).f3) ((rd_T84 l0 x12_1).f4))) = some r := by rw [if_neg (show ¬ (false = true) by decide)] at H; exact H
                            clear H
                            have H := H1
                            clear H1
                            by_cases c31 : x6_13 = true
                            · subst c31
                              have H1 : (if ((rd_T84 l0 x12_1).f3) < 1 then (impl_validMaps.j3 kj13 l0 x12_1 l0 (l0.length : Int) x12_1 true ((rd_T84 l0 x12_1).f0) ((rd_T84 l0 x12_1).f1) ((rd_T84 l0 x12_1).f2) ((rd_T84 l0 x12_1).f3) ((rd_T84 l0 x12_1).f4)) else (if ((rd_T84 l0 x12_1).f3) > 255 then (impl_validMaps.j3 kj13 l0 x12_1 l0 (l0.length : Int) x12_1 true ((rd_T84 l0 x12_1).f0) ((rd_T84 l0 x12_1).f1) ((rd_T84 l0 x12_1).f2) ((rd_T84 l0 x12_1).f3) ((rd_T84 l0 x12_1).f4)) else (if ((rd_T84 l0 x12_1).f4) = 0 then (impl_validMaps.j3 kj13 l0 x12_1 l0 (l0.length : Int) x12_1 false ((rd_T84 l0 x12_1).f0) ((rd_T84 l0 x12_1).f1) ((rd_T84 l0 x12_1).f2) ((rd_T84 l0 x12_1).f3) ((rd_T84 l0 x12_1).f4)) else (impl_validMaps.j3 kj13 l0 x12_1 l0 (l0.length : Int) x12_1 (((rd_T84 l0 x12_1).f4) != 1) ((rd_T84 l0 x12_1).f0) ((rd_T84 l0 x12_1).f1) ((rd_T84 l0 x12_1).f2) ((rd_T84 l0 x12_1).f3) ((rd_T84 l0 x12_1).f4))))) = some r := by rw [if_pos rfl] at H; exact H
                              clear H
                              have H := H1
                              clear H1
                              by_cases c32 : ((rd_T84 l0 x12_1).f3) < 1
                              · rw [if_pos c32] at H
                                have c32b0 : decide (((rd_T84 l0 x12_1).f3) < 1) = true := decide_eq_true c32
                                clear c32
                                have H' := Aside0.mk H
                                clear H
                                have hcz33_0 : wc.cell? ⟨gb140, 0, none⟩ = some (.int .u64 ((rd_T84 l0 x12_1).f0)) := (blk_cell BK140.out 0).trans rfl
                                have hcz33_1 : wc.cell? ⟨gb140, 1, none⟩ = some (.int .i64 ((rd_T84 l0 x12_1).f1)) := (blk_cell BK140.out 1).trans rfl
                                have hcz33_2 : wc.cell? ⟨gb140, 2, none⟩ = some (.int .i64 ((rd_T84 l0 x12_1).f2)) := (blk_cell BK140.out 2).trans rfl
                                have hcz33_3 : wc.cell? ⟨gb140, 3, none⟩ = some (.int .i64 ((rd_T84 l0 x12_1).f3)) := (blk_cell BK140.out 3).trans rfl
                                have hcz33_4 : wc.cell? ⟨gb140, 4, none⟩ = some (.int .i64 ((rd_T84 l0 x12_1).f4)) := (blk_cell BK140.out 4).trans rfl
                                have hfz33_0 := blk_frozen BK140.out 0
                                have hfz33_1 := blk_frozen BK140.out 1
                                have hfz33_2 := blk_frozen BK140.out 2
                                have hfz33_3 := blk_frozen BK140.out 3
                                have hfz33_4 := blk_frozen BK140.out 4
                                go_wp2
                                repeat (go_quiet (fail); try go_wp2)
                                go_meet
                                case rel => exact ⟨_, (true), (by first | rfl | (simp; done) | (simp [*]; done)), H', ⟨by have := HK1.out; have := HJ5.out; have := HJ13.out; first | omega | exact Nat.le_refl _⟩, ⟨by (with_reducible repeat (first | refine blk_drewN ?_ _ | refine blk_drew ?_ | refine blk_alloc ?_ _)); exact BK140.out⟩, ⟨by repeat (first | (with_reducible first | exact HB.out | apply below_alloc | apply pw_below_drewN | apply below_drew1 | refine below_set ?_ GE140.out) | exact HB.out)⟩⟩
                              · rw [if_neg c32] at H
                                have c32b0 : decide (((rd_T84 l0 x12_1).f3) < 1) = false := decide_eq_false c32
                                clear c32
                                by_cases c34 : ((rd_T84 l0 x12_1).f3) > 255
                                · rw [if_pos c34] at H
                                  have c34b0 : decide (255 < ((rd_T84 l0 x12_1).f3)) = true := decide_eq_true c34
                                  clear c34
                                  have H' := Aside0.mk H
                                  clear H
                                  have hcz35_0 : wc.cell? ⟨gb140, 0, none⟩ = some (.int .u64 ((rd_T84 l0 x12_1).f0)) := (blk_cell BK140.out 0).trans rfl
                                  have hcz35_1 : wc.cell? ⟨gb140, 1, none⟩ = some (.int .i64 ((rd_T84 l0 x12_1).f1)) := (blk_cell BK140.out 1).trans rfl
                                  have hcz35_2 : wc.cell? ⟨gb140, 2, none⟩ = some (.int .i64 ((rd_T84 l0 x12_1).f2)) := (blk_cell BK140.out 2).trans rfl
                                  have hcz35_3 : wc.cell? ⟨gb140, 3, none⟩ = some (.int .i64 ((rd_T84 l0 x12_1).f3)) := (blk_cell BK140.out 3).trans rfl
                                  have hcz35_4 : wc.cell? ⟨gb140, 4, none⟩ = some (.int .i64 ((rd_T84 l0 x12_1).f4)) := (blk_cell BK140.out 4).trans rfl
                                  have hfz35_0 := blk_frozen BK140.out 0
                                  have hfz35_1 := blk_frozen BK140.out 1
                                  have hfz35_2 := blk_frozen BK140.out 2
                                  have hfz35_3 := blk_frozen BK140.out 3
                                  have hfz35_4 := blk_frozen BK140.out 4
                                  go_wp2
                                  repeat (go_quiet (fail); try go_wp2)
                                  go_meet
                                  case rel => exact ⟨_, (true), (by first | rfl | (simp; done) | (simp [*]; done)), H', ⟨by have := HK1.out; have := HJ5.out; have := HJ13.out; first | omega | exact Nat.le_refl _⟩, ⟨by (with_reducible repeat (first | refine blk_drewN ?_ _ | refine blk_drew ?_ | refine blk_alloc ?_ _)); exact BK140.out⟩, ⟨by repeat (first | (with_reducible first | exact HB.out | apply below_alloc | apply pw_below_drewN | apply below_drew1 | refine below_set ?_ GE140.out) | exact HB.out)⟩⟩
                                · rw [if_neg c34] at H
                                  have c34b0 : decide (255 < ((rd_T84 l0 x12_1).f3)) = false := decide_eq_false c34
                                  clear c34
                                  by_cases c36 : ((rd_T84 l0 x12_1).f4) = 0
                                  · rw [if_pos c36] at H
                                    have c36b0 : (((rd_T84 l0 x12_1).f4) == 0) = true := beq_iff_eq.mpr c36
                                    have c36b1 : (((rd_T84 l0 x12_1).f4) != 0) = false := bne_eq_false_iff_eq.mpr c36
                                    clear c36
                                    have H' := Aside0.mk H
                                    clear H
                                    have hcz37_0 : wc.cell? ⟨gb140, 0, none⟩ = some (.int .u64 ((rd_T84 l0 x12_1).f0)) := (blk_cell BK140.out 0).trans rfl
                                    have hcz37_1 : wc.cell? ⟨gb140, 1, none⟩ = some (.int .i64 ((rd_T84 l0 x12_1).f1)) := (blk_cell BK140.out 1).trans rfl
                                    have hcz37_2 : wc.cell? ⟨gb140, 2, none⟩ = some (.int .i64 ((rd_T84 l0 x12_1).f2)) := (blk_cell BK140.out 2).trans rfl
                                    have hcz37_3 : wc.cell? ⟨gb140, 3, none⟩ = some (.int .i64 ((rd_T84 l0 x12_1).f3)) := (blk_cell BK140.out 3).trans rfl
                                    have hcz37_4 : wc.cell? ⟨gb140, 4, none⟩ = some (.int .i64 ((rd_T84 l0 x12_1).f4)) := (blk_cell BK140.out 4).trans rfl
                                    have hfz37_0 := blk_frozen BK140.out 0
                                    have hfz37_1 := blk_frozen BK140.out 1
                                    have hfz37_2 := blk_frozen BK140.out 2
                                    have hfz37_3 := blk_frozen BK140.out 3
                                    have hfz37_4 := blk_frozen BK140.out 4
                                    go_wp2
                                    repeat (go_quiet (fail); try go_wp2)
                                    go_meet
                                    case rel => exact ⟨_, (false), (by first | rfl | (simp; done) | (simp [*]; done)), H', ⟨by have := HK1.out; have := HJ5.out; have := HJ13.out; first | omega | exact Nat.le_refl _⟩, ⟨by (with_reducible repeat (first | refine blk_drewN ?_ _ | refine blk_drew ?_ | refine blk_alloc ?_ _)); exact BK140.out⟩, ⟨by repeat (first | (with_reducible first | exact HB.out | apply below_alloc | apply pw_below_drewN | apply below_drew1 | refine below_set ?_ GE140.out) | exact HB.out)⟩⟩
                                  · rw [if_neg c36] at H
                                    have c36b0 : (((rd_T84 l0 x12_1).f4) == 0) = false := beq_eq_false_iff_ne.mpr c36
                                    have c36b1 : (((rd_T84 l0 x12_1).f4) != 0) = true := bne_iff_ne.mpr c36
                                    have H' := Aside0.mk H
                                    clear H
                                    have hcz38_0 : wc.cell? ⟨gb140, 0, none⟩ = some (.int .u64 ((rd_T84 l0 x12_1).f0)) := (blk_cell BK140.out 0).trans rfl
                                    have hcz38_1 : wc.cell? ⟨gb140, 1, none⟩ = some (.int .i64 ((rd_T84 l0 x12_1).f1)) := (blk_cell BK140.out 1).trans rfl
                                    have hcz38_2 : wc.cell? ⟨gb140, 2, none⟩ = some (.int .i64 ((rd_T84 l0 x12_1).f2)) := (blk_cell BK140.out 2).trans rfl
                                    have hcz38_3 : wc.cell? ⟨gb140, 3, none⟩ = some (.int .i64 ((rd_T84 l0 x12_1).f3)) := (blk_cell BK140.out 3).trans rfl
                                    have hcz38_4 : wc.cell? ⟨gb140, 4, none⟩ = some (.int .i64 ((rd_T84 l0 x12_1).f4)) := (blk_cell BK140.out 4).trans rfl
                                    have hfz38_0 := blk_frozen BK140.out 0
                                    have hfz38_1 := blk_frozen BK140.out 1
                                    have hfz38_2 := blk_frozen BK140.out 2
                                    have hfz38_3 := blk_frozen BK140.out 3
                                    have hfz38_4 := blk_frozen BK140.out 4
                                    go_wp2
                                    repeat (go_quiet (fail); try go_wp2)
                                    go_meet
                                    case rel => exact ⟨_, ((((rd_T84 l0 x12_1).f4) != 1)), (by first | rfl | (simp; done) | (simp [*]; done)), H', ⟨by have := HK1.out; have := HJ5.out; have := HJ13.out; first | omega | exact Nat.le_refl _⟩, ⟨by (with_reducible repeat (first | refine blk_drewN ?_ _ | refine blk_drew ?_ | refine blk_alloc ?_ _)); exact BK140.out⟩, ⟨by repeat (first | (with_reducible first | exact HB.out | apply below_alloc | apply pw_below_drewN | apply below_drew1 | refine below_set ?_ GE140.out) | exact HB.out)⟩⟩
                            · replace c31 := Bool.eq_false_iff.mpr c31
                              subst c31
                              have H1 : (impl_validMaps.j3 kj13 l0 x12_1 l0 (l0.length : Int) x12_1 true ((rd_T84 l0 x12_1).f0) ((rd_T84 l0 x12_1).f1) ((rd_T84 l0 x12_1).f2) ((rd_T84 l0 x12_1).f3) ((rd_T84 l0 x12_1).f4)) = some r := by rw [if_neg (show ¬ (false = true) by decide)] at H; exact H
                              clear H
                              have H := H1
                              clear H1
                              have H' := Aside0.mk H
                              clear H
                              have hcz39_0 : wc.cell? ⟨gb140, 0, none⟩ = some (.int .u64 ((rd_T84 l0 x12_1).f0)) := (blk_cell BK140.out 0).trans rfl
                              have hcz39_1 : wc.cell? ⟨gb140, 1, none⟩ = some (.int .i64 ((rd_T84 l0 x12_1).f1)) := (blk_cell BK140.out 1).trans rfl
                              have hcz39_2 : wc.cell? ⟨gb140, 2, none⟩ = some (.int .i64 ((rd_T84 l0 x12_1).f2)) := (blk_cell BK140.out 2).trans rfl
                              have hcz39_3 : wc.cell? ⟨gb140, 3, none⟩ = some (.int .i64 ((rd_T84 l0 x12_1).f3)) := (blk_cell BK140.out 3).trans rfl
                              have hcz39_4 : wc.cell? ⟨gb140, 4, none⟩ = some (.int .i64 ((rd_T84 l0 x12_1).f4)) := (blk_cell BK140.out 4).trans rfl
                              have hfz39_0 := blk_frozen BK140.out 0
                              have hfz39_1 := blk_frozen BK140.out 1
                              have hfz39_2 := blk_frozen BK140.out 2
                              have hfz39_3 := blk_frozen BK140.out 3
                              have hfz39_4 := blk_frozen BK140.out 4
                              go_wp2
                              repeat (go_quiet (fail); try go_wp2)
                              go_meet
                              case rel => exact ⟨_, (true), (by first | rfl | (simp; done) | (simp [*]; done)), H', ⟨by have := HK1.out; have := HJ5.out; have := HJ13.out; first | omega | exact Nat.le_refl _⟩, ⟨by (with_reducible repeat (first | refine blk_drewN ?_ _ | refine blk_drew ?_ | refine blk_alloc ?_ _)); exact BK140.out⟩, ⟨by repeat (first | (with_reducible first | exact HB.out | apply below_alloc | apply pw_below_drewN | apply below_drew1 | refine below_set ?_ GE140.out) | exact HB.out)⟩⟩
                      case rest =>
                        clear HC20
                        try clear c1
                        try clear p1
                        try clear q1
                        try clear hx1
                        try clear c2
                        try clear c2b0
                        try clear c2b1
                        try clear p2
                        try clear c3
                        try clear c3b0
                        try clear c4
                        try clear c4b0
                        try clear c5
                        try clear c5b0
                        try clear p6
                        try clear c7
                        try clear c9
                        try clear c9b0
                        try clear c9b1
                        try clear c10
                        try clear c10b0
                        try clear p13
                        try clear q13
                        try clear hx13
                        try clear c15
                        try clear c15b0
                        try clear c15b1
                        try clear c16
                        try clear c16b0
                        try clear c16b1
                        try clear c21
                        try clear c21b0
                        try clear c23
                        try clear c24
                        try clear c24b0
                        try clear c26
                        try clear c26b0
                        try clear c28
                        try clear c28b0
                        try clear c28b1
                        try clear c31
                        try clear c32
                        try clear c32b0
                        try clear c34
                        try clear c34b0
                        try clear c36
                        try clear c36b0
                        try clear c36b1
                        try clear hcz11_0
                        try clear hcz11_1
                        try clear hcz11_2
                        try clear hcz11_3
                        try clear hcz11_4
                        try clear hcz12_0
                        try clear hcz12_1
                        try clear hcz12_2
                        try clear hcz12_3
                        try clear hcz12_4
                        try clear hcz13_0
                        try clear hcz13_1
                        try clear hcz13_2
                        try clear hcz13_3
                        try clear hcz13_4
                        try clear hcz17_0
                        try clear hcz17_1
                        try clear hcz17_2
                        try clear hcz17_3
                        try clear hcz17_4
                        try clear hcz18_0
                        try clear hcz18_1
                        try clear hcz18_2
                        try clear hcz18_3
                        try clear hcz18_4
                        try clear hcz19_0
                        try clear hcz19_1
                        try clear hcz19_2
                        try clear hcz19_3
                        try clear hcz19_4
                        try clear hcz22_0
                        try clear hcz22_1
                        try clear hcz22_2
                        try clear hcz22_3
                        try clear hcz22_4
                        try clear hcz25_0
                        try clear hcz25_1
                        try clear hcz25_2
                        try clear hcz25_3
                        try clear hcz25_4
                        try clear hcz27_0
                        try clear hcz27_1
                        try clear hcz27_2
                        try clear hcz27_3
                        try clear hcz27_4
                        try clear hcz29_0
                        try clear hcz29_1
                        try clear hcz29_2
                        try clear hcz29_3
                        try clear hcz29_4
                        try clear hcz30_0
                        try clear hcz30_1
                        try clear hcz30_2
                        try clear hcz30_3
                        try clear hcz30_4
                        try clear hcz33_0
                        try clear hcz33_1
                        try clear hcz33_2
                        try clear hcz33_3
                        try clear hcz33_4
                        try clear hcz35_0
                        try clear hcz35_1
                        try clear hcz35_2
                        try clear hcz35_3
                        try clear hcz35_4
                        try clear hcz37_0
                        try clear hcz37_1
                        try clear hcz37_2
                        try clear hcz37_3
                        try clear hcz37_4
                        try clear hcz38_0
                        try clear hcz38_1
                        try clear hcz38_2
                        try clear hcz38_3
                        try clear hcz38_4
                        try clear hcz39_0
                        try clear hcz39_1
                        try clear hcz39_2
                        try clear hcz39_3
                        try clear hcz39_4
                        try clear hcz8_0
                        try clear hcz8_1
                        try clear hcz8_2
                        try clear hcz8_3
                        try clear hcz8_4
                        try clear hfz11_0
                        try clear hfz11_1
                        try clear hfz11_2
                        try clear hfz11_3
                        try clear hfz11_4
                        try clear hfz12_0
                        try clear hfz12_1
                        try clear hfz12_2
                        try clear hfz12_3
                        try clear hfz12_4
                        try clear hfz13_0
                        try clear hfz13_1
                        try clear hfz13_2
                        try clear hfz13_3
                        try clear hfz13_4
                        try clear hfz17_0
                        try clear hfz17_1
                        try clear hfz17_2
                        try clear hfz17_3
                        try clear hfz17_4
                        try clear hfz18_0
                        try clear hfz18_1
                        try clear hfz18_2
                        try clear hfz18_3
                        try clear hfz18_4
                        try clear hfz19_0
                        try clear hfz19_1
                        try clear hfz19_2
                        try clear hfz19_3
                        try clear hfz19_4
                        try clear hfz22_0
                        try clear hfz22_1
                        try clear hfz22_2
                        try clear hfz22_3
                        try clear hfz22_4
                        try clear hfz25_0
                        try clear hfz25_1
                        try clear hfz25_2
                        try clear hfz25_3
                        try clear hfz25_4
                        try clear hfz27_0
                        try clear hfz27_1
                        try clear hfz27_2
                        try clear hfz27_3
                        try clear hfz27_4
                        try clear hfz29_0
                        try clear hfz29_1
                        try clear hfz29_2
                        try clear hfz29_3
                        try clear hfz29_4
                        try clear hfz30_0
                        try clear hfz30_1
                        try clear hfz30_2
                        try clear hfz30_3
                        try clear hfz30_4
                        try clear hfz33_0
                        try clear hfz33_1
                        try clear hfz33_2
                        try clear hfz33_3
                        try clear hfz33_4
                        try clear hfz35_0
                        try clear hfz35_1
                        try clear hfz35_2
                        try clear hfz35_3
                        try clear hfz35_4
                        try clear hfz37_0
                        try clear hfz37_1
                        try clear hfz37_2
                        try clear hfz37_3
                        try clear hfz37_4
                        try clear hfz38_0
                        try clear hfz38_1
                        try clear hfz38_2
                        try clear hfz38_3
                        try clear hfz38_4
                        try clear hfz39_0
                        try clear hfz39_1
                        try clear hfz39_2
                        try clear hfz39_3
                        try clear hfz39_4
                        try clear hfz8_0
                        try clear hfz8_1
                        try clear hfz8_2
                        try clear hfz8_3
                        try clear hfz8_4
                        try clear hx139_0
                        try clear hx139_1
                        try clear hx139_2
                        try clear hx139_3
                        try clear hx139_4
                        try clear p1
                        try clear p13
                        try clear p139
                        try clear p2
                        try clear p6
                        try clear q1
                        try clear q13
                        try clear q139
                        obtain ⟨kq, x75_19, rfl, HA, HJ19, BK140, HB⟩ := hcut
                        cases kq with
                        | zero => exact absurd HA.out (by simp [impl_validMaps.j3])
                        | succ kj19 =>
                          have H := HA.out
                          clear HA
                          simp only [impl_validMaps.j3] at H
                          by_cases c40 : x75_19 = true
                          · subst c40
                            have H1 : (some false) = some r := by rw [if_pos rfl] at H; exact H
                            clear H
                            have H := H1
                            clear H1
                            obtain rfl := Option.some.inj H
                            go_wp2
                            repeat (go_quiet (fail); try go_wp2)
                            go_ret
                            exact ⟨by first | rfl | (simp [errW_none, errW_some] <;> rfl) | (simp [*, errW_none, errW_some] <;> rfl), by repeat (first | (with_reducible first | exact HB.out | apply below_alloc | apply pw_below_drewN | apply below_drew1 | refine below_set ?_ GE140.out) | exact HB.out)⟩
                          · replace c40 := Bool.eq_false_iff.mpr c40
                            subst c40
                            have H1 : (if x12_1 > 0 then (if 0 ≤ (wrap64 (x12_1 - 1)) then (if (wrap64 (x12_1 - 1)) < (l0.length : Int) then (if ((rd_T84 l0 x12_1).f0) < (IntKind.u64.wrap (((rd_T84 l0 (wrap64 (x12_1 - 1))).f0) + (IntKind.u64.wrap ((rd_T84 l0 (wrap64 (x12_1 - 1))).f1)))) then (some false) else (impl_validMaps.l0 kj19 l0 l0 (l0.length : Int) (wrap64 (x12_1 + 1)))) else (none)) else (none)) else (impl_validMaps.l0 kj19 l0 l0 (l0.length : Int) (wrap64 (x12_1 + 1)))) = some r := by rw [if_neg (show ¬ (false = true) by decide)] at H; exact H
                            clear H
                            have H := H1
                            clear H1
                            by_cases c41 : x12_1 > 0
                            · rw [if_pos c41] at H
                              have c41b0 : decide (0 < x12_1) = true := decide_eq_true c41
                              clear c41
                              obtain ⟨ji42, hji42⟩ : ∃ j_ : Int, (wrap64 (x12_1 - 1)) = j_ := ⟨_, rfl⟩
                              replace H : (if 0 ≤ (ji42) then (if (ji42) < (l0.length : Int) then (if ((rd_T84 l0 x12_1).f0) < (IntKind.u64.wrap (((rd_T84 l0 (ji42)).f0) + (IntKind.u64.wrap ((rd_T84 l0 (ji42)).f1)))) then (some false) else (impl_validMaps.l0 kj19 l0 l0 (l0.length : Int) (wrap64 (x12_1 + 1)))) else (none)) else (none)) = some r := by first | (rw [hji42] at H; exact H) | (simp only [hji42] at H ⊢; exact H)
                              have hji42w : (IntKind.i64.wrap (x12_1 - 1)) = ji42 := (i64_w _).trans hji42
                              by_cases c43 : 0 ≤ (ji42)
                              · rw [if_pos c43] at H
                                have c43b0 : decide (0 ≤ (ji42)) = true := decide_eq_true c43
                                clear c43
                                by_cases c44 : (ji42) < (l0.length : Int)
                                · rw [if_pos c44] at H
                                  have c44b0 : decide ((ji42) < (l0.length : Int)) = true := decide_eq_true c44
                                  clear c44
                                  by_cases c45 : ((rd_T84 l0 x12_1).f0) < (IntKind.u64.wrap (((rd_T84 l0 (ji42)).f0) + (IntKind.u64.wrap ((rd_T84 l0 (ji42)).f1))))
                                  · rw [if_pos c45] at H
                                    have c45b0 : decide (((rd_T84 l0 x12_1).f0) < (IntKind.u64.wrap (((rd_T84 l0 (ji42)).f0) + (IntKind.u64.wrap ((rd_T84 l0 (ji42)).f1))))) = true := decide_eq_true c45
                                    clear c45
                                    obtain rfl := Option.some.inj H
                                    have hcz46_0 : wc.cell? ⟨gb140, 0, none⟩ = some (.int .u64 ((rd_T84 l0 x12_1).f0)) := (blk_cell BK140.out 0).trans rfl
                                    have hcz46_1 : wc.cell? ⟨gb140, 1, none⟩ = some (.int .i64 ((rd_T84 l0 x12_1).f1)) := (blk_cell BK140.out 1).trans rfl
                                    have hcz46_2 : wc.cell? ⟨gb140, 2, none⟩ = some (.int .i64 ((rd_T84 l0 x12_1).f2)) := (blk_cell BK140.out 2).trans rfl
                                    have hcz46_3 : wc.cell? ⟨gb140, 3, none⟩ = some (.int .i64 ((rd_T84 l0 x12_1).f3)) := (blk_cell BK140.out 3).trans rfl
                                    have hcz46_4 : wc.cell? ⟨gb140, 4, none⟩ = some (.int .i64 ((rd_T84 l0 x12_1).f4)) := (blk_cell BK140.out 4).trans rfl
                                    have hfz46_0 := blk_frozen BK140.out 0
                                    have hfz46_1 := blk_frozen BK140.out 1
                                    have hfz46_2 := blk_frozen BK140.out 2
                                    have hfz46_3 := blk_frozen BK140.out 3
                                    have hfz46_4 := blk_frozen BK140.out 4
                                    have p141 : 0 ≤ ((ji42) : Int) := of_decide_eq_true (by first | (with_reducible assumption) | assumption)
                                    have q141 : (ji42) < (l0.length : Int) := of_decide_eq_true (by first | (with_reducible assumption) | assumption)
                                    obtain ⟨ad141, e141, hx141_0, hx141_1, hx141_2, hx141_3, hx141_4⟩ := at_T84 HR0.out (ji42) p141 q141
                                    obtain rfl : ad139 = ad141 := (by injection e141)
                                    replace hx141_0 := (HB.out.cell (World.block_lt_of_cell? w _ hx141_0)).trans hx141_0
                                    replace hx141_1 := (HB.out.cell (World.block_lt_of_cell? w _ hx141_1)).trans hx141_1
                                    replace hx141_2 := (HB.out.cell (World.block_lt_of_cell? w _ hx141_2)).trans hx141_2
                                    replace hx141_3 := (HB.out.cell (World.block_lt_of_cell? w _ hx141_3)).trans hx141_3
                                    replace hx141_4 := (HB.out.cell (World.block_lt_of_cell? w _ hx141_4)).trans hx141_4
                                    replace p141 := eq_true p141
                                    replace q141 := eq_true q141
                                    have p142 : 0 ≤ ((ji42) : Int) := of_decide_eq_true (by first | (with_reducible assumption) | assumption)
                                    have q142 : (ji42) < (l0.length : Int) := of_decide_eq_true (by first | (with_reducible assumption) | assumption)
                                    obtain ⟨ad142, e142, hx142_0, hx142_1, hx142_2, hx142_3, hx142_4⟩ := at_T84 HR0.out (ji42) p142 q142
                                    obtain rfl : ad139 = ad142 := (by injection e142)
                                    replace hx142_0 := (HB.out.cell (World.block_lt_of_cell? w _ hx142_0)).trans hx142_0
                                    replace hx142_1 := (HB.out.cell (World.block_lt_of_cell? w _ hx142_1)).trans hx142_1
                                    replace hx142_2 := (HB.out.cell (World.block_lt_of_cell? w _ hx142_2)).trans hx142_2
                                    replace hx142_3 := (HB.out.cell (World.block_lt_of_cell? w _ hx142_3)).trans hx142_3
                                    replace hx142_4 := (HB.out.cell (World.block_lt_of_cell? w _ hx142_4)).trans hx142_4
                                    replace p142 := eq_true p142
                                    replace q142 := eq_true q142
                                    go_wp2
                                    repeat (go_quiet (fail); try go_wp2)
                                    go_ret
                                    exact ⟨by first | rfl | (simp [errW_none, errW_some] <;> rfl) | (simp only [← hji42]; first | rfl | (simp [errW_none, errW_some] <;> rfl)) | (simp [*, errW_none, errW_some] <;> rfl), by repeat (first | (with_reducible first | exact HB.out | apply below_alloc | apply pw_below_drewN | apply below_drew1 | refine below_set ?_ GE140.out) | exact HB.out)⟩
                                  · rw [if_neg c45] at H
                                    have c45b0 : decide (((rd_T84 l0 x12_1).f0) < (IntKind.u64.wrap (((rd_T84 l0 (ji42)).f0) + (IntKind.u64.wrap ((rd_T84 l0 (ji42)).f1))))) = false := decide_eq_false c45
                                    clear c45
                                    have H' := Aside0.mk H
                                    clear H
                                    have hcz47_0 : wc.cell? ⟨gb140, 0, none⟩ = some (.int .u64 ((rd_T84 l0 x12_1).f0)) := (blk_cell BK140.out 0).trans rfl
                                    have hcz47_1 : wc.cell? ⟨gb140, 1, none⟩ = some (.int .i64 ((rd_T84 l0 x12_1).f1)) := (blk_cell BK140.out 1).trans rfl
                                    have hcz47_2 : wc.cell? ⟨gb140, 2, none⟩ = some (.int .i64 ((rd_T84 l0 x12_1).f2)) := (blk_cell BK140.out 2).trans rfl
                                    have hcz47_3 : wc.cell? ⟨gb140, 3, none⟩ = some (.int .i64 ((rd_T84 l0 x12_1).f3)) := (blk_cell BK140.out 3).trans rfl
                                    have hcz47_4 : wc.cell? ⟨gb140, 4, none⟩ = some (.int .i64 ((rd_T84 l0 x12_1).f4)) := (blk_cell BK140.out 4).trans rfl
                                    have hfz47_0 := blk_frozen BK140.out 0
                                    have hfz47_1 := blk_frozen BK140.out 1
                                    have hfz47_2 := blk_frozen BK140.out 2
                                    have hfz47_3 := blk_frozen BK140.out 3
                                    have hfz47_4 := blk_frozen BK140.out 4
                                    have p141 : 0 ≤ ((ji42) : Int) := of_decide_eq_true (by first | (with_reducible assumption) | assumption)
                                    have q141 : (ji42) < (l0.length : Int) := of_decide_eq_true (by first | (with_reducible assumption) | assumption)
                                    obtain ⟨ad141, e141, hx141_0, hx141_1, hx141_2, hx141_3, hx141_4⟩ := at_T84 HR0.out (ji42) p141 q141
                                    obtain rfl : ad139 = ad141 := (by injection e141)
                                    replace hx141_0 := (HB.out.cell (World.block_lt_of_cell? w _ hx141_0)).trans hx141_0
                                    replace hx141_1 := (HB.out.cell (World.block_lt_of_cell? w _ hx141_1)).trans hx141_1
                                    replace hx141_2 := (HB.out.cell (World.block_lt_of_cell? w _ hx141_2)).trans hx141_2
                                    replace hx141_3 := (HB.out.cell (World.block_lt_of_cell? w _ hx141_3)).trans hx141_3
                                    replace hx141_4 := (HB.out.cell (World.block_lt_of_cell? w _ hx141_4)).trans hx141_4
                                    replace p141 := eq_true p141
                                    replace q141 := eq_true q141
                                    have p142 : 0 ≤ ((ji42) : Int) := of_decide_eq_true (by first | (with_reducible assumption) | assumption)
                                    have q142 : (ji42) < (l0.length : Int) := of_decide_eq_true (by first | (with_reducible assumption) | assumption)
                                    obtain ⟨ad142, e142, hx142_0, hx142_1, hx142_2, hx142_3, hx142_4⟩ := at_T84 HR0.out (ji42) p142 q142
                                    obtain rfl : ad139 = ad142 := (by injection e142)
                                    replace hx142_0 := (HB.out.cell (World.block_lt_of_cell? w _ hx142_0)).trans hx142_0
                                    replace hx142_1 := (HB.out.cell (World.block_lt_of_cell? w _ hx142_1)).trans hx142_1
                                    replace hx142_2 := (HB.out.cell (World.block_lt_of_cell? w _ hx142_2)).trans hx142_2
                                    replace hx142_3 := (HB.out.cell (World.block_lt_of_cell? w _ hx142_3)).trans hx142_3
                                    replace hx142_4 := (HB.out.cell (World.block_lt_of_cell? w _ hx142_4)).trans hx142_4
                                    replace p142 := eq_true p142
                                    replace q142 := eq_true q142
                                    go_wp2
                                    repeat (go_quiet (fail); try go_wp2)
                                    go_roundg kj19
                                    case measure => have := HK1.out; have := HJ5.out; have := HJ13.out; have := HJ19.out; omega
                                    case rel => exact ⟨(wrap64 (x12_1 + 1)), (by first | rfl | (simp; done) | (simp [*]; done)), H', ⟨by have := HK1.out; have := HJ5.out; have := HJ13.out; have := HJ19.out; omega⟩, ⟨by repeat (first | (with_reducible first | exact HB.out | apply below_alloc | apply pw_below_drewN | apply below_drew1 | refine below_set ?_ GE140.out) | exact HB.out)⟩⟩
                                · rw [if_neg c44] at H
                                  exact absurd H (by simp)
                              · rw [if_neg c43] at H
                                exact absurd H (by simp)
                            · rw [if_neg c41] at H
                              have c41b0 : decide (0 < x12_1) = false := decide_eq_false c41
                              clear c41
                              have H' := Aside0.mk H
                              clear H
                              go_wp2
                              repeat (go_quiet (fail); try go_wp2)
                              go_roundg kj19
                              case measure => have := HK1.out; have := HJ5.out; have := HJ13.out; have := HJ19.out; omega
                              case rel => exact ⟨(wrap64 (x12_1 + 1)), (by first | rfl | (simp; done) | (simp [*]; done)), H', ⟨by have := HK1.out; have := HJ5.out; have := HJ13.out; have := HJ19.out; omega⟩, ⟨by repeat (first | (with_reducible first | exact HB.out | apply below_alloc | apply pw_below_drewN | apply below_drew1 | refine below_set ?_ GE140.out) | exact HB.out)⟩⟩
            · rw [if_neg c5] at H
              exact absurd H (by simp)
          · rw [if_neg c4] at H
            exact absurd H (by simp)
        · rw [if_neg c3] at H
          have c3b0 : decide (x12_1 < (l0.length : Int)) = false := decide_eq_false c3
          clear c3
          obtain rfl := Option.some.inj H
          go_wp2
          repeat (go_quiet (fail); try go_wp2)
          go_ret
          exact ⟨by first | rfl | (simp [errW_none, errW_some] <;> rfl) | (simp [*, errW_none, errW_some] <;> rfl), by repeat (first | (with_reducible first | exact HB.out | apply below_alloc | apply pw_below_drewN | apply below_drew1) | exact HB.out)⟩

end Go.Proofs.Ytakeenidhkhmiaa.PFnExactAckMaps
