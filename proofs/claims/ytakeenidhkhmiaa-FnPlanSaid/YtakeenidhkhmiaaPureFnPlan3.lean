/- What is drawn: a plan's input. Conditions: bounds. -/
import Derived.Test.YtakeenidhkhmiaaPureFnPlan2
set_option linter.unusedSimpArgs false
set_option linter.unusedVariables false
namespace Go.AK
open Go
structure DSrc (l : List Int) (p st : Int) : Prop where
  p0 : 0 ≤ p
  p1 : p ≤ l.length
  s : 0 ≤ st ∧ st < 18446744073709551616
theorem next_ex {l : List Int} {p st : Int} (h : DSrc l p st) (hl : l.length ≤ 1048576) (n : Int) (hn : 0 < n) (hn2 : n ≤ 9223372036854775807) :
    ∃ e, spec_l1Next.f l p st n = some e ∧ DSrc l e.2.1 e.2.2 ∧ 0 ≤ e.1 ∧ e.1 < n := by
  have h0 := h.p0
  have h1 := h.p1
  unfold spec_l1Next.f
  rw [if_neg (by omega)]
  have hw := wu64_rng (IntKind.u64.wrap (st * 6364136223846793005) + 1442695040888963407)
  have hfd : ∀ x : Int, 0 ≤ x → x < 18446744073709551616 → 0 ≤ x.fdiv (2 ^ 33) ∧ x.fdiv (2 ^ 33) < 18446744073709551616 := fun x a b => by
    rw [Int.fdiv_eq_ediv_of_nonneg _ (by decide)]; omega
  have hv : ∀ x : Int, 0 ≤ x → x < 18446744073709551616 → 0 ≤ IntKind.i64.wrap (x.tmod (IntKind.u64.wrap n)) ∧ IntKind.i64.wrap (x.tmod (IntKind.u64.wrap n)) < n := fun x a b => by
    rw [wu64_in (n := n) (by omega) (by omega), Int.tmod_eq_emod_of_nonneg a]
    have := Int.emod_nonneg x (show n ≠ 0 by omega)
    have := Int.emod_lt_of_pos x (show 0 < n by omega)
    rw [wi64_in (by omega) (by omega)]; omega
  have hz : ¬ IntKind.u64.wrap n = 0 := by rw [wu64_in (by omega) (by omega)]; omega
  by_cases c2 : p < (l.length : Int)
  · have hx := xor64_rng ((IntKind.u64.wrap (IntKind.u64.wrap (st * 6364136223846793005) + 1442695040888963407)).fdiv (2 ^ 33)) (IntKind.u64.wrap (rd 0 l p))
    rw [if_pos c2, if_pos ⟨h0, c2⟩, some_bind, if_pos hz, wi64_in (n := p + 1) (by omega) (by omega)]
    have := hv _ hx.1 hx.2
    exact ⟨_, rfl, ⟨by show 0 ≤ p + 1; omega, by show p + 1 ≤ _; omega, hw⟩, this.1, this.2⟩
  · rw [if_neg c2, some_bind, if_pos hz]
    have hf := hfd _ hw.1 hw.2
    have := hv _ hf.1 hf.2
    exact ⟨_, rfl, ⟨h0, h1, hw⟩, this.1, this.2⟩
theorem begin_loop (l : List Int) (u1 : List Int) (u2 u3 u4 : Int) (hl : l.length ≤ 1048576) (s : List Int) : ∀ (i st : Int), 0 ≤ i → l.drop i.toNat = s → 0 ≤ st ∧ st < 18446744073709551616 → ∃ r, spec_l1Begin.l0 l u1 u2 u3 u4 i st = some r ∧ 0 ≤ r ∧ r < 18446744073709551616 := by
  induction s with
  | nil => intro i st h0 hd hs; rw [spec_l1Begin.l0, if_neg (suf_nil h0 hd)]; exact ⟨_, rfl, hs⟩
  | cons e t ih =>
    intro i st h0 hd hs
    obtain ⟨q1, q2, q3⟩ := suf_cons h0 hd 0
    rw [spec_l1Begin.l0, if_pos q1, if_pos ⟨h0, q1⟩, wi64_in (n := i + 1) (by omega) (by omega)]
    exact ih (i + 1) _ (by omega) q3 (wu64_rng _)
theorem begin_ex (l : List Int) (hl : l.length ≤ 1048576) : ∃ e, spec_l1Begin.f l = some e ∧ DSrc l e.1 e.2 := by
  unfold spec_l1Begin.f
  refine step_ex (begin_loop l [] 0 0 0 hl l 0 1469598103934665603 (by omega) rfl (by omega)) fun r hr => ⟨_, rfl, ?_⟩
  exact ⟨Int.le_refl _, by show (0 : Int) ≤ _; omega, hr⟩
theorem next_any {l : List Int} {p st : Int} (h : DSrc l p st) (hl : l.length ≤ 1048576) (n : Int) (hn2 : n ≤ 9223372036854775807) :
    ∃ e, spec_l1Next.f l p st n = some e ∧ DSrc l e.2.1 e.2.2 := by
  by_cases c : 0 < n
  · obtain ⟨e, e1, e2, _⟩ := next_ex h hl n c hn2
    exact ⟨e, e1, e2⟩
  · unfold spec_l1Next.f
    rw [if_pos (by omega)]
    exact ⟨_, rfl, h⟩
section
variable (l : List Int) (hl : l.length ≤ 1048576)
include hl
theorem dp0 (n : Int) (hn : n ≤ 100) (k : Nat) : ∀ (i p st : Int) (L : List S86), DSrc l p st → 0 ≤ i → i ≤ n → n - i ≤ k → (L.length : Int) = i →
    ∃ y, spec_l6DrawPaths.l0 l n i p st L = some y ∧ DSrc l y.1 y.2.1 ∧ (y.2.2.length : Int) = n := by
  induction k with
  | zero =>
    intro i p st L h h0 h1 h2 h3
    rw [spec_l6DrawPaths.l0, if_neg (by omega)]
    exact ⟨_, rfl, h, by show (L.length : Int) = n; omega⟩
  | succ k ih =>
    intro i p st L h h0 h1 h2 h3
    by_cases c : i < n
    · rw [spec_l6DrawPaths.l0, if_pos c]
      refine step_ex (next_any h hl 4 (by omega)) fun a ha => ?_
      refine step_ex (next_any ha hl 4 (by omega)) fun b hb => ?_
      refine step_ex (p := fun e : Int × Int × Int => DSrc l e.1 e.2.1) ?_ fun j hj => ?_
      · refine step_ex (next_any hb hl 4 (by omega)) fun d hd => ?_
        split <;> exact ⟨_, rfl, hd⟩
      · rw [if_pos (by omega), wi64_in (n := i + 1) (by omega) (by omega)]
        exact ih _ _ _ _ hj (by omega) (by omega) (by omega) (by simp only [List.length_append, List.length_cons, List.length_nil]; omega)
    · rw [spec_l6DrawPaths.l0, if_neg c]
      exact ⟨_, rfl, h, by show (L.length : Int) = n; omega⟩
omit hl in
theorem dp1 (a b : Int) (k : Nat) : ∀ L : List S86, 9 - L.length ≤ k → 0 < L.length → L.length ≤ 100 → ∃ y, spec_l6DrawPaths.l1 a b L = some y ∧ y.length ≤ 100 := by
  induction k with
  | zero =>
    intro L h1 h2 h3
    rw [spec_l6DrawPaths.l1, if_neg (by omega)]
    exact ⟨_, rfl, h3⟩
  | succ k ih =>
    intro L h1 h2 h3
    rw [spec_l6DrawPaths.l1]
    by_cases c : (L.length : Int) ≤ 8
    · rw [if_pos c, if_pos (by omega), if_pos (by omega)]
      exact ih _ (by simp only [List.length_append, List.length_cons, List.length_nil]; omega) (by simp) (by simp only [List.length_append, List.length_cons, List.length_nil]; omega)
    · rw [if_neg c]; exact ⟨_, rfl, h3⟩
theorem dpaths {p st : Int} (h : DSrc l p st) : ∃ e, spec_l6DrawPaths.f l p st = some e ∧ DSrc l e.2.1 e.2.2 ∧ e.1.length ≤ 100 := by
  unfold spec_l6DrawPaths.f
  refine step_ex (next_ex h hl 8 (by omega) (by omega)) fun a ha => ?_
  rw [wi64_in (n := 1 + a.1) (by omega) (by omega)]
  refine step_ex (dp0 l hl (1 + a.1) (by omega) 8 0 _ _ [] ha.1 (by omega) (by omega) (by omega) rfl) fun y hy => ?_
  refine step_ex (next_any hy.1 hl 30 (by omega)) fun k hk => ?_
  refine step_ex (next_ex hk hl (1 + a.1) (by omega) (by omega)) fun i hi => ?_
  refine step_ex (p := fun e : List S86 => e.length ≤ 100) ?_ fun j hj => ⟨_, rfl, hi.1, hj⟩
  have hb : 0 ≤ i.1 ∧ i.1 < (y.2.2.length : Int) := ⟨hi.2.1, by omega⟩
  have hs : ∀ v : S86, (y.2.2.set i.1.toNat v).length ≤ 100 := fun v => by rw [List.length_set]; omega
  simp only [if_pos hb]
  (repeat' split) <;> first | exact ⟨_, rfl, hs _⟩ | exact ⟨_, rfl, by simp⟩ | exact ⟨_, rfl, by omega⟩ | exact step_ex (dp1 _ _ 9 _ (by omega) (by omega) (by omega)) fun y hy => ⟨_, rfl, hy⟩
def posM (L : List S84) : Prop := ∀ x ∈ L, 0 ≤ x.f0
omit hl in
theorem posM_snoc {L : List S84} {x : S84} (h : posM L) (hx : 0 ≤ x.f0) : posM (L ++ [x]) := fun y hy => by
  rcases List.mem_append.1 hy with hy | hy
  · exact h y hy
  · rw [List.mem_singleton] at hy; subst hy; exact hx
omit hl in
theorem posM_set {L : List S84} {i : Nat} {x : S84} (h : posM L) (hx : 0 ≤ x.f0) : posM (L.set i x) := fun y hy => by
  rcases List.mem_or_eq_of_mem_set hy with hy | hy
  · exact h y hy
  · subst hy; exact hx
theorem dm0 (n : Int) (hn : n ≤ 100) (k : Nat) : ∀ (at_ i p st : Int) (L : List S84), DSrc l p st → 0 ≤ i → i ≤ n → n - i ≤ k → (L.length : Int) = i → posM L → 0 ≤ at_ →
    ∃ y, spec_l6DrawMaps.l0 l n at_ i p st L = some y ∧ DSrc l y.1 y.2.1 ∧ y.2.2.length ≤ 100 ∧ posM y.2.2 := by
  induction k with
  | zero =>
    intro at_ i p st L h h0 h1 h2 h3 h4 h5
    rw [spec_l6DrawMaps.l0, if_neg (by omega), some_bind, if_neg nft]
    exact ⟨_, rfl, h, by show L.length ≤ 100; omega, h4⟩
  | succ k ih =>
    intro at_ i p st L h h0 h1 h2 h3 h4 h5
    rw [spec_l6DrawMaps.l0]
    by_cases c : i < n
    · rw [if_pos c, some_bind]
      by_cases c2 : at_ < 4611686018427387904
      · rw [if_pos (decide_eq_true c2)]
        refine step_ex (p := fun e : Int × Int × Int × List S84 => 0 ≤ e.1 ∧ DSrc l e.2.1 e.2.2.1 ∧ (e.2.2.2.length : Int) = i + 1 ∧ posM e.2.2.2) ?_ fun j hj => ?_
        · refine step_ex (next_any h hl 9 (by omega)) fun a ha => ?_
          refine step_ex (next_any ha hl 7 (by omega)) fun b hb => ?_
          refine step_ex (p := fun e : Int × Int × Int => DSrc l e.1 e.2.1) ?_ fun d hd => ?_
          · refine step_ex (next_any hb hl 5 (by omega)) fun d hd => ?_
            split
            · exact step_ex (next_any hd hl 255 (by omega)) fun e he => ⟨_, rfl, he⟩
            · exact ⟨_, rfl, hd⟩
          refine step_ex (p := fun e : Int × Int × Int => DSrc l e.1 e.2.1) ?_ fun e he => ?_
          · refine step_ex (next_any hd hl 3 (by omega)) fun e he => ?_
            split <;> exact ⟨_, rfl, he⟩
          refine step_ex (p := fun e : Int × Int × Int => DSrc l e.1 e.2.1) ?_ fun f hf => ?_
          · refine step_ex (next_any he hl 12 (by omega)) fun e he => ?_
            split <;> exact ⟨_, rfl, he⟩
          refine step_ex (p := fun e : Int × Int × Int × Int => DSrc l e.1 e.2.1) ?_ fun g hg => ?_
          · refine step_ex (p := fun e : Bool × Int × Int => DSrc l e.2.1 e.2.2) ?_ fun e he => ?_
            · split
              · exact step_ex (next_any hf hl 3 (by omega)) fun e he => ⟨_, rfl, he⟩
              · exact ⟨_, rfl, hf⟩
            · split <;> exact ⟨_, rfl, he⟩
          rw [if_pos (by omega)]
          refine step_ex (next_any hg hl 6 (by omega)) fun q hq => ?_
          have hlen : ∀ x : S84, ((L ++ [x]).length : Int) = i + 1 := fun x => by simp only [List.length_append, List.length_cons, List.length_nil]; omega
          split
          · exact step_ex (next_any hq hl 9 (by omega)) fun e he => ⟨_, rfl, (wu64_rng _).1, he, hlen _, posM_snoc h4 h5⟩
          · exact ⟨_, rfl, (wu64_rng _).1, hq, hlen _, posM_snoc h4 h5⟩
        · rw [wi64_in (n := i + 1) (by omega) (by omega)]
          exact ih _ _ _ _ _ hj.2.1 (by omega) (by omega) (by omega) hj.2.2.1 hj.2.2.2 hj.1
      · rw [if_neg (fun h => c2 (of_decide_eq_true h))]
        exact ⟨_, rfl, h, by show L.length ≤ 100; omega, h4⟩
    · rw [if_neg c, some_bind, if_neg nft]
      exact ⟨_, rfl, h, by show L.length ≤ 100; omega, h4⟩
theorem dmaps {p st : Int} (h : DSrc l p st) : ∃ e, spec_l6DrawMaps.f l p st 6 = some e ∧ DSrc l e.2.1 e.2.2 ∧ e.1.length ≤ 100 ∧ posM e.1 := by
  unfold spec_l6DrawMaps.f
  rw [wi64_in (n := 6 + 1) (by omega) (by omega)]
  refine step_ex (next_ex h hl (6 + 1) (by omega) (by omega)) fun a ha => ?_
  refine step_ex (next_any ha.1 hl 50 (by omega)) fun b hb => ?_
  refine step_ex (p := fun e : Int × Int × Int => 0 ≤ e.1 ∧ DSrc l e.2.1 e.2.2) ?_ fun j hj => ?_
  · refine step_ex (next_any hb hl 12 (by omega)) fun d hd => ?_
    split
    · exact step_ex (next_any hd hl 40 (by omega)) fun e he => ⟨_, rfl, (wu64_rng _).1, he⟩
    · exact ⟨_, rfl, (wu64_rng _).1, hd⟩
  · refine step_ex (dm0 l hl a.1 (by omega) 7 j.1 0 _ _ [] hj.2 (by omega) (by omega) (by omega) rfl (fun x hx => by simp at hx) hj.1) fun y hy => ⟨_, rfl, hy.1, hy.2⟩
theorem dspoil {p st : Int} (h : DSrc l p st) (L : List S84) (h1 : L.length ≤ 100) (h2 : posM L) : ∃ e, spec_l6SpoilMaps.f l p st L = some e ∧ posM e.2.2 := by
  unfold spec_l6SpoilMaps.f
  by_cases c : (L.length : Int) = 0
  · rw [if_pos c, if_pos (by omega)]
    exact ⟨_, rfl, posM_snoc h2 (by show (0 : Int) ≤ 3; omega)⟩
  · rw [if_neg c]
    refine step_ex (next_ex h hl (L.length : Int) (by omega) (by omega)) fun i hi => ?_
    have hb : 0 ≤ i.1 ∧ i.1 < (L.length : Int) := hi.2
    have ho := h2 _ (rd_mem (z := z84) hb.1 hb.2)
    refine step_ex (p := fun e : Int × Int × List S84 => posM e.2.2) ?_ fun j hj => ⟨_, rfl, hj⟩
    refine step_ex (next_any hi.1 hl 9 (by omega)) fun k hk => ?_
    simp only [if_pos hb]
    (repeat' split) <;> first | exact ⟨_, rfl, posM_set h2 ho⟩ | exact ⟨_, rfl, posM_set h2 (wu64_rng _).1⟩ | exact ⟨_, rfl, posM_set h2 (x := ⟨4611686018427387905, _, _, _, _⟩) (by show (0 : Int) ≤ 4611686018427387905; omega)⟩ | exact ⟨_, rfl, h2⟩
end
end Go.AK
