/- For every two lists of bytes the law FnSerial answers true: what its draws give is within bounds, and distances, less and Lift are as they must be. No condition beyond what the kinds of its arguments say. -/
import Derived.Test.YtjkbpcbnfkangaaUFnSerial
import Derived.Test.YtjkbpcbnfkangaaAk2
set_option linter.unusedSimpArgs false
set_option linter.unusedVariables false
namespace Go.AK
open Go
def bytes (l : List Int) : Prop := ∀ x ∈ l, 0 ≤ x ∧ x ≤ 255
/-- A source of numbers that is well. -/
def SrcOk (l : List Int) (pos st : Int) : Prop := 0 ≤ pos ∧ pos ≤ l.length ∧ 0 ≤ st ∧ st < 18446744073709551616
theorem l1Begin_loop (l : List Int) (n : Nat) : ∀ (a b c i s : Int), 0 ≤ i → i + n = l.length → l.length < 9223372036854775807 → 0 ≤ s → s < 18446744073709551616 → ∃ r, spec_l1Begin.l0 l a b c i s = some r ∧ 0 ≤ r ∧ r < 18446744073709551616 := by
  induction n with
  | zero =>
    intro a b c i s h0 h1 h2 h3 h4
    rw [spec_l1Begin.l0, if_neg (by omega)]
    exact ⟨_, rfl, h3, h4⟩
  | succ n ih =>
    intro a b c i s h0 h1 h2 h3 h4
    rw [spec_l1Begin.l0, if_pos (by omega), if_pos (by omega)]
    have := wu64_rng ((bits .xor .u64 s (IntKind.u64.wrap (rd 0 l i))) * 1099511628211)
    rw [wi64_in (n := i + 1) (by omega) (by omega)]
    exact ih a b c (i + 1) _ (by omega) (by omega) h2 this.1 this.2
theorem l1Begin_ok (l : List Int) (h : l.length < 9223372036854775807) : ∃ r, spec_l1Begin.f l = some r ∧ SrcOk l r.1 r.2 := by
  unfold spec_l1Begin.f
  refine step_ex (l1Begin_loop l l.length _ _ _ _ _ (by omega) (by omega) h (by omega) (by omega)) fun s hs => ⟨_, rfl, ?_⟩
  exact ⟨Int.le_refl _, by simp, hs.1, hs.2⟩
theorem fdiv_rng {x : Int} (h0 : 0 ≤ x) (h1 : x < 18446744073709551616) : 0 ≤ x.fdiv (2 ^ 33) ∧ x.fdiv (2 ^ 33) < 2147483648 := by
  rw [Int.fdiv_eq_ediv_of_nonneg _ (by decide)]; omega
theorem l1Next_ok (l : List Int) (pos st n : Int) (h : SrcOk l pos st) (hl : l.length < 9223372036854775807) (hn : 0 < n) (hn2 : n < 9223372036854775808) :
    ∃ r, spec_l1Next.f l pos st n = some r ∧ (0 ≤ r.1 ∧ r.1 < n) ∧ SrcOk l r.2.1 r.2.2 := by
  unfold spec_l1Next.f
  rw [if_neg (by omega)]
  have h1 := wu64_rng ((IntKind.u64.wrap (st * 6364136223846793005)) + 1442695040888963407)
  have h2 := fdiv_rng h1.1 h1.2
  obtain ⟨p1, p2, p3, p4⟩ := h
  refine step_ex (p := fun j : Int × Int => (0 ≤ j.1 ∧ 0 ≤ j.2 ∧ j.2 ≤ (l.length : Int))) ?_ fun j hj => ?_
  · by_cases c : pos < l.length
    · rw [if_pos c, if_pos ⟨p1, c⟩]
      exact ⟨_, rfl, (xor64_rng _ _).1, by rw [wi64_in] <;> omega, by rw [wi64_in] <;> omega⟩
    · rw [if_neg c]; exact ⟨_, rfl, h2.1, p1, p2⟩
  · rw [wu64_in (n := n) (by omega) (by omega), if_pos (by omega)]
    refine ⟨_, rfl, ?_, hj.2.1, hj.2.2, h1.1, h1.2⟩
    have := Int.emod_nonneg j.1 (show n ≠ 0 by omega)
    have := Int.emod_lt_of_pos j.1 hn
    show 0 ≤ IntKind.i64.wrap (j.1.tmod n) ∧ IntKind.i64.wrap (j.1.tmod n) < n
    rw [Int.tmod_eq_emod_of_nonneg hj.1, wi64_in] <;> omega
theorem l1Word_ok (l : List Int) (pos st : Int) (h : SrcOk l pos st) (hl : l.length < 9223372036854775807) : ∃ r, spec_l1Word.f l pos st = some r ∧ (0 ≤ r.1 ∧ r.1 < 18446744073709551616) ∧ SrcOk l r.2.1 r.2.2 := by
  unfold spec_l1Word.f
  refine step_ex (l1Next_ok l pos st _ h hl (by omega) (by omega)) fun a ha => ?_
  refine step_ex (l1Next_ok l _ _ _ ha.2 hl (by omega) (by omega)) fun b hb => ?_
  refine step_ex (l1Next_ok l _ _ _ hb.2 hl (by omega) (by omega)) fun c hc => ⟨_, rfl, xor64_rng _ _, hc.2⟩
theorem drawDist_ok (l : List Int) (hl : l.length < 9223372036854775807) : ∃ r, spec_DrawSerialDistance.f l = some r ∧ (0 ≤ r.1 ∧ r.1 < 4294967296) ∧ 0 ≤ r.2 ∧ r.2 < 4294967296 := by
  unfold spec_DrawSerialDistance.f
  refine step_ex (l1Begin_ok l hl) fun a ha => ?_
  refine step_ex (l1Word_ok l _ _ ha hl) fun b hb => ?_
  refine step_ex (l1Next_ok l _ _ _ hb.2 hl (by omega) (by omega)) fun c hc => ?_
  refine step_ex (l1Next_ok l _ _ _ hc.2 hl (by omega) (by omega)) fun d hd => ?_
  split
  · exact ⟨_, rfl, wu32_rng _, wu32_rng _⟩
  split
  · exact ⟨_, rfl, wu32_rng _, wu32_rng _⟩
  split
  · refine step_ex (l1Next_ok l _ _ _ hd.2 hl (by omega) (by omega)) fun e he => ?_
    refine step_ex (l1Next_ok l _ _ _ he.2 hl (by omega) (by omega)) fun f hf => ⟨_, rfl, wu32_rng _, wu32_rng _⟩
  · refine step_ex (l1Word_ok l _ _ hd.2 hl) fun e he => ⟨_, rfl, wu32_rng _, wu32_rng _⟩
theorem drawLift_ok (l : List Int) (hl : l.length < 9223372036854775807) : ∃ r, spec_DrawLift.f l = some r ∧ (0 ≤ r.1 ∧ r.1 < 18446744073709551616) := by
  unfold spec_DrawLift.f
  refine step_ex (l1Begin_ok l hl) fun a ha => ?_
  refine step_ex (l1Word_ok l _ _ ha hl) fun b hb => ?_
  refine step_ex (l1Next_ok l _ _ _ hb.2 hl (by omega) (by omega)) fun c hc => ?_
  have := wu64_rng c.1
  rw [if_pos (by omega)]
  refine step_ex (l1Next_ok l _ _ _ hc.2 hl (by omega) (by omega)) fun d hd => ?_
  refine step_ex (p := fun j : Int × Int × Int => (0 ≤ j.1 ∧ j.1 < 18446744073709551616) ∧ SrcOk l j.2.1 j.2.2) ?_ fun j hj => ?_
  · split
    · exact step_ex (l1Next_ok l _ _ _ hd.2 hl (by omega) (by omega)) fun e he => ⟨_, rfl, wu64_rng _, he.2⟩
    split
    · exact step_ex (l1Next_ok l _ _ _ hd.2 hl (by omega) (by omega)) fun e he => ⟨_, rfl, wu64_rng _, he.2⟩
    split
    · refine step_ex (l1Next_ok l _ _ _ hd.2 hl (by omega) (by omega)) fun e he => ?_
      exact step_ex (l1Next_ok l _ _ _ he.2 hl (by omega) (by omega)) fun f hf => ⟨_, rfl, wu64_rng _, hf.2⟩
    · exact ⟨_, rfl, wu64_rng _, hd.2⟩
  · refine step_ex (l1Next_ok l _ _ _ hj.2 hl (by omega) (by omega)) fun e he => ?_
    refine step_ex (l1Next_ok l _ _ _ he.2 hl (by omega) (by omega)) fun f hf => ?_
    split
    · exact ⟨_, rfl, hj.1⟩
    split
    · exact ⟨_, rfl, hj.1⟩
    · exact step_ex (l1Word_ok l _ _ hf.2 hl) fun g hg => ⟨_, rfl, hj.1⟩
/-- The distance on the circle. -/
def dist (a b : Int) : Int := if (b - a) % 4294967296 ≥ 2147483648 then (b - a) % 4294967296 - 4294967296 else (b - a) % 4294967296
theorem dist_is (a b : Int) : impl_SerialDistance.f a b = some (dist a b) := by
  unfold impl_SerialDistance.f dist
  rw [wu32, wi32]
  congr 1
  have e : (b - a) % 4294967296 % 4294967296 = (b - a) % 4294967296 := by omega
  rw [e, wi64_in]
  · split <;> omega
  · split <;> omega
theorem less_is (a b : Int) : impl_SerialLess.f a b = some (decide (dist a b > 0)) := by
  unfold impl_SerialLess.f
  rw [dist_is]; rfl
theorem lift_is (x s : Int) (h0 : 0 ≤ x) (h1 : x < 18446744073709551616) (hs : 0 ≤ s) (hs1 : s < 4294967296) :
    impl_Lift.f x s = some (if x + dist x s < 0 ∨ 18446744073709551615 < x + dist x s then (0, 4) else (x + dist x s, 0)) := by
  have hd : dist (IntKind.u32.wrap x) s = dist x s := by
    unfold dist; rw [wu32]
    have : (s - x % 4294967296) % 4294967296 = (s - x) % 4294967296 := by omega
    rw [this]
  have hr : -2147483648 ≤ dist x s ∧ dist x s < 2147483648 := by unfold dist; split <;> omega
  unfold impl_Lift.f
  rw [dist_is, hd]
  simp only [some_bind]
  generalize dist x s = d at hr ⊢
  rw [wi64_in (n := 0 - d) (by omega) (by omega)]
  by_cases c : d < 0
  · have e : IntKind.u64.wrap (0 - d) = -d := by rw [wu64]; omega
    have e2 : IntKind.u64.wrap (x + IntKind.u64.wrap d) = (x + d) % 18446744073709551616 := by rw [wu64, wu64]; omega
    rw [if_pos c, e, e2]
    by_cases c2 : x < -d
    · rw [if_pos c2]; simp only [some_bind]; rw [if_pos trivial, if_pos (.inl (by omega))]
    · rw [if_neg c2, if_neg (by omega)]; simp only [some_bind]; rw [if_neg (by simp), if_neg (by omega)]
      congr 2; omega
  · rw [if_neg c]
    have e2 : IntKind.u64.wrap (x + IntKind.u64.wrap d) = (x + d) % 18446744073709551616 := by rw [wu64, wu64]; omega
    rw [e2]
    by_cases c3 : d > 0
    · have e : IntKind.u64.wrap (18446744073709551615 - IntKind.u64.wrap d) = 18446744073709551615 - d := by rw [wu64, wu64]; omega
      rw [if_pos c3, e]; simp only [some_bind]
      by_cases c4 : x > 18446744073709551615 - d
      · rw [if_pos (by simpa using c4), if_pos (.inr (by omega))]
      · rw [if_neg (by simpa using c4), if_neg (by omega)]; congr 2; omega
    · rw [if_neg c3]; simp only [some_bind]; rw [if_neg (by simp), if_neg (by omega)]; congr 2; omega
theorem FnSerial_pure (l0 l1 : List Int) (_ : l0.length ≤ maxLen) (_ : ∀ x ∈ l0, (Lit.int .u8 x).wf = true) (_ : l1.length ≤ maxLen) (_ : ∀ x ∈ l1, (Lit.int .u8 x).wf = true) : laws_FnSerial.f l0 l1 = some true := by
  unfold laws_FnSerial.f
  by_cases c0 : (l0.length : Int) > 1048576
  · rw [if_pos c0]; rfl
  rw [if_neg c0]; simp only [some_bind]
  by_cases c1 : (l1.length : Int) > 1048576
  · rw [if_pos (by simpa using c1)]
  rw [if_neg (by simpa using c1)]
  refine step_of (drawDist_ok l0 (by omega)) fun p hp => ?_
  obtain ⟨a, b⟩ := p
  obtain ⟨⟨a0, a1⟩, b0, b1⟩ := hp
  simp only at a0 a1 b0 b1 ⊢
  have hd : dist a b = if (b - a) % 4294967296 ≥ 2147483648 then (b - a) % 4294967296 - 4294967296 else (b - a) % 4294967296 := rfl
  have hd' : dist b a = if (a - b) % 4294967296 ≥ 2147483648 then (a - b) % 4294967296 - 4294967296 else (a - b) % 4294967296 := rfl
  have hr : -2147483648 ≤ dist a b ∧ dist a b < 2147483648 := by rw [hd]; split <;> omega
  have hsum : (a + dist a b) % 4294967296 = b := by rw [hd]; split <;> omega
  rw [dist_is]; simp only [some_bind, less_is]
  have e1 : IntKind.u32.wrap (a + IntKind.u32.wrap (dist a b)) = b := by rw [wu32, wu32]; omega
  rw [if_neg (by rw [e1]; simp), if_neg (by omega)]
  simp only [some_bind]
  rw [if_neg (by simp; omega)]
  have e2 : IntKind.u32.wrap (a - b) = (a - b) % 4294967296 := wu32 _
  have key : ((if a ≠ b then (if IntKind.u32.wrap (a - b) ≠ 2147483648 then (if (decide (dist a b > 0) == decide (dist b a > 0)) = true then some true else if a = b then some (decide (dist a b > 0)) else some false) else if a = b then some (decide (dist a b > 0)) else some false) else if a = b then some (decide (dist a b > 0)) else some false) : Option Bool) = some false := by
    by_cases h : a = b
    · subst h
      have : dist a a = 0 := by unfold dist; simp
      simp [this]
    · rw [if_pos h]
      by_cases h2 : IntKind.u32.wrap (a - b) ≠ 2147483648
      · rw [if_pos h2, if_neg]
        · rw [if_neg h]
        · rw [e2] at h2
          have : (dist a b > 0) ↔ ¬ (dist b a > 0) := by rw [hd, hd']; split <;> split <;> omega
          by_cases q : dist a b > 0
          · simp [q, this.1 q]
          · have : dist b a > 0 := by rcases Classical.em (dist b a > 0) with z | z; exact z; exact absurd (this.2 z) q
            simp [q, this]
      · rw [if_neg h2, if_neg h]
  rw [key]; simp only [some_bind]
  rw [if_neg (by simp), if_neg (by simp)]
  refine step_of (drawLift_ok l1 (by omega)) fun q hq => ?_
  obtain ⟨x, y⟩ := q
  simp only at hq ⊢
  generalize dist a b = d at hr ⊢
  have e3 : IntKind.u64.wrap (x + IntKind.u64.wrap d) = (x + d) % 18446744073709551616 := by rw [wu64, wu64]; omega
  rw [e3, wu32]
  have hdl : dist x ((x + d) % 18446744073709551616 % 4294967296) = d := by
    unfold dist
    have : ((x + d) % 18446744073709551616 % 4294967296 - x) % 4294967296 = d % 4294967296 := by omega
    rw [this]; split <;> omega
  rw [lift_is x _ hq.1 hq.2 (by omega) (by omega), hdl]
  simp only [some_bind]
  by_cases c : d ≥ 0
  · rw [if_pos c]
    by_cases c2 : (x + d) % 18446744073709551616 < x
    · rw [if_pos c2, if_pos (.inr (by omega))]; rfl
    · rw [if_neg c2, if_neg (by omega), if_neg (by omega)]
      simp only [some_bind]
      rw [if_neg (by simp), if_pos trivial]
      congr 1; rw [decide_eq_true_iff]; omega
  · rw [if_neg c, if_pos (by omega)]
    simp only [some_bind]
    by_cases c2 : (x + d) % 18446744073709551616 > x
    · rw [if_pos (by simpa using c2), if_pos (.inl (by omega))]; rfl
    · have h9 : ¬ (x + d < 0 ∨ 18446744073709551615 < x + d) := by omega
      rw [if_neg (by simpa using c2), if_neg h9, if_pos rfl]
      congr 1; rw [decide_eq_true_iff]; omega
end Go.AK
