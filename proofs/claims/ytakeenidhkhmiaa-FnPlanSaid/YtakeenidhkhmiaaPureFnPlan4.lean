/- A plan's input is drawn in full. Conditions: bounds. -/
import Derived.Test.YtakeenidhkhmiaaPureFnPlan3
set_option maxRecDepth 100000
set_option linter.unusedSimpArgs false
set_option linter.unusedVariables false
namespace Go.AK
open Go
section
variable (l : List Int) (hl : l.length ≤ 1048576)
include hl
theorem dl0 (u2 u3 : Int) (u4 : List Int) (u5 : List S86) (u6 : List S84) (u7 u8 u9 u10 u11 u12 u13 u16 u17 : Int) (u19 : List S86) (u20 : List S84) (u21 u22 u23 u24 u25 u26 u27 : Int) (n : Int) (hn : n ≤ 100) (k : Nat) :
    ∀ (i p st : Int) (L : List Int), DSrc l p st → 0 ≤ i → i ≤ n → n - i ≤ k → (L.length : Int) = i →
    ∃ y, spec_DrawPlanSend.l0 l n u2 u3 u4 u5 u6 u7 u8 u9 u10 u11 u12 u13 u16 u17 u19 u20 u21 u22 u23 u24 u25 u26 u27 i p st L = some y ∧ DSrc l y.1 y.2.1 ∧ y.2.2.length ≤ 100 := by
  induction k with
  | zero =>
    intro i p st L h h0 h1 h2 h3
    rw [spec_DrawPlanSend.l0, if_neg (by omega)]
    exact ⟨_, rfl, h, by show L.length ≤ 100; omega⟩
  | succ k ih =>
    intro i p st L h h0 h1 h2 h3
    by_cases c : i < n
    · rw [spec_DrawPlanSend.l0, if_pos c]
      refine step_ex (next_any h hl 10 (by omega)) fun a ha => ?_
      rw [if_pos (by omega), wi64_in (n := i + 1) (by omega) (by omega)]
      exact ih _ _ _ _ ha (by omega) (by omega) (by omega) (by simp only [List.length_append, List.length_cons, List.length_nil]; omega)
    · rw [spec_DrawPlanSend.l0, if_neg c]
      exact ⟨_, rfl, h, by show L.length ≤ 100; omega⟩
omit hl in
theorem dl1 (u1 u2 : Int) (u3 : List Int) (u4 : List S86) (u5 : List S84) (u6 u7 u8 u9 u10 u11 u12 u13 u14 u15 u16 : Int) (u17 : List Int) (u18 : List S86) (u20 u21 u22 u23 u24 u25 u26 : Int) (k : Nat) :
    ∀ (i : Int) (L : List S84), 0 ≤ i → L.length - i ≤ k → L.length ≤ 100 → posM L → ∃ y, spec_DrawPlanSend.l1 u1 u2 u3 u4 u5 u6 u7 u8 u9 u10 u11 u12 u13 u14 u15 u16 u17 u18 u20 u21 u22 u23 u24 u25 u26 i L = some y ∧ y.length ≤ 100 ∧ posM y := by
  induction k with
  | zero =>
    intro i L h0 h1 h2 h3
    rw [spec_DrawPlanSend.l1, if_neg (by omega)]
    exact ⟨_, rfl, h2, h3⟩
  | succ k ih =>
    intro i L h0 h1 h2 h3
    rw [spec_DrawPlanSend.l1]
    by_cases c : i < (L.length : Int)
    · rw [if_pos c, if_pos ⟨h0, c⟩, wi64_in (n := i + 1) (by omega) (by omega)]
      exact ih _ _ (by omega) (by rw [List.length_set]; omega) (by rw [List.length_set]; omega) (posM_set (x := ⟨(rd z84 L i).f0, _, _, _, _⟩) h3 (show (0 : Int) ≤ (rd z84 L i).f0 from h3 _ (rd_mem (z := z84) h0 c)))
    · rw [if_neg c]; exact ⟨_, rfl, h2, h3⟩
omit hl in
theorem dl2 (u0 u1 : Int) (u2 : List Int) (u3 : List S86) (u4 : List S84) (u5 u6 u7 u8 u9 u10 u11 u12 u13 u14 u15 : Int) (u17 : List S86) (u18 : List S84) (u19 u20 u21 u22 u23 u24 u25 : Int) (k : Nat) :
    ∀ L : List Int, 1000 - L.length ≤ k → L.length ≤ 1000 → ∃ y, spec_DrawPlanSend.l2 u0 u1 u2 u3 u4 u5 u6 u7 u8 u9 u10 u11 u12 u13 u14 u15 u17 u18 u19 u20 u21 u22 u23 u24 u25 L = some y ∧ y.length ≤ 1000 := by
  induction k with
  | zero =>
    intro L h1 h2
    rw [spec_DrawPlanSend.l2.eq_def, if_neg (by omega)]
    exact ⟨_, rfl, h2⟩
  | succ k ih =>
    intro L h1 h2
    rw [spec_DrawPlanSend.l2.eq_def]
    by_cases c : (L.length : Int) < 1000
    · rw [if_pos c, if_pos (by omega)]
      exact ih _ (by simp only [List.length_append, List.length_cons, List.length_nil]; omega) (by simp only [List.length_append, List.length_cons, List.length_nil]; omega)
    · rw [if_neg c]; exact ⟨_, rfl, h2⟩
abbrev T12 := Int × Int × List Int × List S86 × List S84 × Int × Int × Int × Int × Int × Int × Int
theorem draw_ex : ∃ e : T12, spec_DrawPlanSend.f l = some e ∧ posM e.2.2.2.2.1 ∧ 0 ≤ e.2.2.2.2.2.2.1 := by
  unfold spec_DrawPlanSend.f
  refine step_ex (begin_ex l hl) fun s hs => ?_
  refine step_ex (next_any hs hl 4 (by omega)) fun t7 h7 => ?_
  refine step_ex (dpaths l hl h7) fun t10 h10 => ?_
  refine step_ex (dmaps l hl h10.1) fun t13 h13 => ?_
  refine step_ex (next_any h13.1 hl 12 (by omega)) fun t16 h16 => ?_
  refine step_ex (next_any h16 hl 32 (by omega)) fun t19 h19 => ?_
  refine step_ex (next_any h19 hl (t10.1.length : Int) (by omega)) fun t26 h26 => ?_
  refine step_ex (next_ex h26 hl 4 (by omega) (by omega)) fun t30 h30 => ?_
  refine step_ex (dl0 l hl _ _ _ _ _ _ _ _ _ _ _ _ _ _ _ _ _ _ _ _ _ _ _ t30.1 (by omega) 4 0 _ _ [] h30.1 (by omega) (by omega) (by omega) rfl) fun y hy => ?_
  refine step_ex (p := fun e : Int × Int × List S84 => DSrc l e.1 e.2.1 ∧ e.2.2.length ≤ 100 ∧ posM e.2.2) ?_ fun j hj => ?_
  · refine step_ex (next_any hy.1 hl 2 (by omega)) fun a ha => ?_
    split
    · exact step_ex (dl1 _ _ _ _ _ _ _ _ _ _ _ _ _ _ _ _ _ _ _ _ _ _ _ _ _ 100 0 _ (by omega) (by omega) h13.2.1 h13.2.2) fun z hz => ⟨_, rfl, ha, hz⟩
    · exact ⟨_, rfl, ha, h13.2⟩
  refine step_ex (p := fun e : Int × Int × Int => DSrc l e.1 e.2.1) ?_ fun b hb => ?_
  · refine step_ex (p := fun e : Bool × Int × Int => DSrc l e.2.1 e.2.2) ?_ fun c hc => ?_
    · split
      · exact step_ex (next_any hj.1 hl 6 (by omega)) fun a ha => ⟨_, rfl, ha⟩
      · exact ⟨_, rfl, hj.1⟩
    · split
      · refine step_ex (next_any hc hl 3 (by omega)) fun a ha => ?_
        split <;> exact ⟨_, rfl, ha⟩
      · exact ⟨_, rfl, hc⟩
  refine step_ex (p := fun e : Int × Int => 0 ≤ e.1) ?_ fun d hd => ?_
  · by_cases c : (j.2.2.length : Int) > 0
    · have := hj.2.1
      rw [if_pos c, wi64_in (n := (j.2.2.length : Int) - 1) (by omega) (by omega), if_pos (by omega)]
      exact ⟨_, rfl, (wu64_rng _).1⟩
    · rw [if_neg c]; exact ⟨_, rfl, Int.le_refl _⟩
  refine step_ex (next_any hb hl 3 (by omega)) fun t173 h173 => ?_
  refine step_ex (next_any h173 hl 40 (by omega)) fun t176 h176 => ?_
  refine step_ex (next_any h176 hl 3 (by omega)) fun t184 h184 => ?_
  refine step_ex (next_any h184 hl 40 (by omega)) fun t187 h187 => ?_
  refine step_ex (next_any h187 hl 2 (by omega)) fun t195 h195 => ?_
  refine step_ex (p := fun e : Int × Int × List Int × List S84 × Int × Int × Int × Int × Int => posM e.2.2.2.1) ?_ fun z hz => ⟨_, rfl, hz, hd⟩
  refine step_ex (next_any h195 hl 40 (by omega)) fun t203 h203 => ?_
  have hp := hj.2.2
  by_cases c0 : t203.1 = 0
  · rw [if_pos c0]; exact step_ex (next_any h203 hl 2 (by omega)) fun a ha => ⟨_, rfl, hp⟩
  by_cases c1 : t203.1 = 1
  · rw [if_neg c0, if_pos c1]; exact ⟨_, rfl, hp⟩
  by_cases c2 : t203.1 = 2
  · rw [if_neg c0, if_neg c1, if_pos c2]; exact ⟨_, rfl, hp⟩
  by_cases c3 : t203.1 = 3
  · rw [if_neg c0, if_neg c1, if_neg c2, if_pos c3]; exact ⟨_, rfl, hp⟩
  by_cases c4 : t203.1 = 4
  · rw [if_neg c0, if_neg c1, if_neg c2, if_neg c3, if_pos c4]; exact ⟨_, rfl, hp⟩
  by_cases c5 : t203.1 = 5
  · rw [if_neg c0, if_neg c1, if_neg c2, if_neg c3, if_neg c4, if_pos c5]; exact ⟨_, rfl, hp⟩
  by_cases c6 : t203.1 = 6
  · rw [if_neg c0, if_neg c1, if_neg c2, if_neg c3, if_neg c4, if_neg c5, if_pos c6]; exact ⟨_, rfl, hp⟩
  by_cases c7 : t203.1 = 7
  · rw [if_neg c0, if_neg c1, if_neg c2, if_neg c3, if_neg c4, if_neg c5, if_neg c6, if_pos c7]
    exact step_ex (dspoil l hl h203 j.2.2 hj.2.1 hp) fun a ha => ⟨_, rfl, ha⟩
  by_cases c8 : t203.1 = 8
  · rw [if_neg c0, if_neg c1, if_neg c2, if_neg c3, if_neg c4, if_neg c5, if_neg c6, if_neg c7, if_pos c8]
    have hy2 := hy.2
    refine step_ex (dl2 _ _ _ _ _ _ _ _ _ _ _ _ _ _ _ _ _ _ _ _ _ _ _ _ _ 1000 _ (by omega) (by omega)) fun w hw => ?_
    refine step_ex (next_any h203 hl 2 (by omega)) fun a ha => ?_
    by_cases e : a.1 = 0
    · rw [if_pos e, if_pos (by omega)]; exact ⟨_, rfl, hp⟩
    · rw [if_neg e]; exact ⟨_, rfl, hp⟩
  by_cases c9 : t203.1 = 9
  · rw [if_neg c0, if_neg c1, if_neg c2, if_neg c3, if_neg c4, if_neg c5, if_neg c6, if_neg c7, if_neg c8, if_pos c9]; exact ⟨_, rfl, hp⟩
  · rw [if_neg c0, if_neg c1, if_neg c2, if_neg c3, if_neg c4, if_neg c5, if_neg c6, if_neg c7, if_neg c8, if_neg c9]; exact ⟨_, rfl, hp⟩
end
end Go.AK
