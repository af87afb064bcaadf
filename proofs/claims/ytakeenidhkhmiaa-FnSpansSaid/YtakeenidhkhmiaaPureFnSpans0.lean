/- What is drawn: the source of numbers, span sets and a span. Conditions: bounds. -/
import Derived.Test.YtakeenidhkhmiaaUFnSpans2
import Derived.Test.YtakeenidhkhmiaaAk2
set_option linter.unusedSimpArgs false
set_option linter.unusedVariables false
namespace Go.AK
open Go
theorem nft : ¬ (false = true) := fun h => by cases h
structure DSrc (l : List Int) (p st : Int) : Prop where
  p0 : 0 ≤ p
  p1 : p ≤ l.length
  s : 0 ≤ st ∧ st < 18446744073709551616
theorem next_ex {l : List Int} {p st : Int} (h : DSrc l p st) (hl : l.length ≤ 1048576) (n : Int) (hn : 0 < n) (hn2 : n ≤ 9223372036854775807) :
    ∃ e, spec_l1Next.f l p st n = some e ∧ DSrc l e.2.1 e.2.2 ∧ 0 ≤ e.1 ∧ e.1 < n := by
  have h0 := h.p0
  have h1 := h.p1
  unfold spec_l1Next.f
  rw [if_neg (by omega)]
  have hw := wu64_rng (IntKind.u64.wrap (st * 6364136223846793005) + 1442695040888963407)
  have hfd : ∀ x : Int, 0 ≤ x → x < 18446744073709551616 → 0 ≤ x.fdiv (2 ^ 33) ∧ x.fdiv (2 ^ 33) < 18446744073709551616 := fun x a b => by
    rw [Int.fdiv_eq_ediv_of_nonneg _ (by decide)]; omega
  have hv : ∀ x : Int, 0 ≤ x → x < 18446744073709551616 → 0 ≤ IntKind.i64.wrap (x.tmod (IntKind.u64.wrap n)) ∧ IntKind.i64.wrap (x.tmod (IntKind.u64.wrap n)) < n := fun x a b => by
    rw [wu64_in (n := n) (by omega) (by omega), Int.tmod_eq_emod_of_nonneg a]
    have := Int.emod_nonneg x (show n ≠ 0 by omega)
    have := Int.emod_lt_of_pos x (show 0 < n by omega)
    rw [wi64_in (by omega) (by omega)]; omega
  have hz : ¬ IntKind.u64.wrap n = 0 := by rw [wu64_in (by omega) (by omega)]; omega
  by_cases c2 : p < (l.length : Int)
  · have hx := xor64_rng ((IntKind.u64.wrap (IntKind.u64.wrap (st * 6364136223846793005) + 1442695040888963407)).fdiv (2 ^ 33)) (IntKind.u64.wrap (rd 0 l p))
    rw [if_pos c2, if_pos ⟨h0, c2⟩, some_bind, if_pos hz, wi64_in (n := p + 1) (by omega) (by omega)]
    have := hv _ hx.1 hx.2
    exact ⟨_, rfl, ⟨by show 0 ≤ p + 1; omega, by show p + 1 ≤ _; omega, hw⟩, this.1, this.2⟩
  · rw [if_neg c2, some_bind, if_pos hz]
    have hf := hfd _ hw.1 hw.2
    have := hv _ hf.1 hf.2
    exact ⟨_, rfl, ⟨h0, h1, hw⟩, this.1, this.2⟩
theorem begin_loop (l : List Int) (u1 : List Int) (u2 u3 u4 : Int) (hl : l.length ≤ 1048576) (s : List Int) : ∀ (i st : Int), 0 ≤ i → l.drop i.toNat = s → 0 ≤ st ∧ st < 18446744073709551616 → ∃ r, spec_l1Begin.l0 l u1 u2 u3 u4 i st = some r ∧ 0 ≤ r ∧ r < 18446744073709551616 := by
  induction s with
  | nil => intro i st h0 hd hs; rw [spec_l1Begin.l0, if_neg (suf_nil h0 hd)]; exact ⟨_, rfl, hs⟩
  | cons e t ih =>
    intro i st h0 hd hs
    obtain ⟨q1, q2, q3⟩ := suf_cons h0 hd 0
    rw [spec_l1Begin.l0, if_pos q1, if_pos ⟨h0, q1⟩, wi64_in (n := i + 1) (by omega) (by omega)]
    exact ih (i + 1) _ (by omega) q3 (wu64_rng _)
theorem begin_ex (l : List Int) (hl : l.length ≤ 1048576) : ∃ e, spec_l1Begin.f l = some e ∧ DSrc l e.1 e.2 := by
  unfold spec_l1Begin.f
  refine step_ex (begin_loop l [] 0 0 0 hl l 0 1469598103934665603 (by omega) rfl (by omega)) fun r hr => ⟨_, rfl, ?_⟩
  exact ⟨Int.le_refl _, by show (0 : Int) ≤ _; omega, hr⟩
theorem word_ex {l : List Int} {p st : Int} (h : DSrc l p st) (hl : l.length ≤ 1048576) : ∃ e, spec_l1Word.f l p st = some e ∧ DSrc l e.2.1 e.2.2 ∧ 0 ≤ e.1 ∧ e.1 < 18446744073709551616 := by
  unfold spec_l1Word.f
  refine step_ex (next_ex h hl 2147483648 (by omega) (by omega)) fun a ha => ?_
  refine step_ex (next_ex ha.1 hl 2147483648 (by omega) (by omega)) fun b hb => ?_
  refine step_ex (next_ex hb.1 hl 2147483648 (by omega) (by omega)) fun c hc => ?_
  exact ⟨_, rfl, hc.1, xor64_rng _ _⟩
/-- Every end is a number of 64 bits. -/
def rngL (L : List S31) : Prop := ∀ x ∈ L, (0 ≤ x.f0 ∧ x.f0 < 18446744073709551616) ∧ (0 ≤ x.f1 ∧ x.f1 < 18446744073709551616)
theorem rngL_nil : rngL [] := fun x hx => by simp at hx
theorem rngL_snoc {L : List S31} {a b : Int} (h : rngL L) (ha : 0 ≤ a ∧ a < 18446744073709551616) (hb : 0 ≤ b ∧ b < 18446744073709551616) : rngL (L ++ [⟨a, b⟩]) := by
  intro x hx
  rcases List.mem_append.1 hx with hx | hx
  · exact h x hx
  · rw [List.mem_singleton] at hx; subst hx; exact ⟨ha, hb⟩
theorem rngL_set {L : List S31} {i : Nat} {a b : Int} (h : rngL L) (ha : 0 ≤ a ∧ a < 18446744073709551616) (hb : 0 ≤ b ∧ b < 18446744073709551616) : rngL (L.set i ⟨a, b⟩) := by
  intro x hx
  rcases List.mem_or_eq_of_mem_set hx with hx | hx
  · exact h x hx
  · subst hx; exact ⟨ha, hb⟩
def GoodD (l : List Int) (n : Int) (z : Int × Int × List S31) : Prop := DSrc l z.1 z.2.1 ∧ (z.2.2.length : Int) ≤ n ∧ rngL z.2.2
def GoodLp (l : List Int) (n : Int) : Lp (Int × Int × List S31) (Int × Int × List S31) → Prop
  | .a z => GoodD l n z
  | .b z => GoodD l n z
theorem drawset_loop (l : List Int) (hl : l.length ≤ 1048576) (n : Int) (hn : n ≤ 12) (w : Bool) (k : Nat) : ∀ (at_ i p st : Int) (L : List S31), DSrc l p st → 0 ≤ i → i ≤ n → n - i ≤ k → (L.length : Int) ≤ i → rngL L → 0 ≤ at_ ∧ at_ < 18446744073709551616 →
    ∃ y, spec_l2DrawSet.l0 l n w at_ i p st L = some y ∧ GoodLp l n y := by
  induction k with
  | zero =>
    intro at_ i p st L h h0 h1 h2 h3 h4 h5
    rw [spec_l2DrawSet.l0, if_neg (by omega)]
    exact ⟨_, rfl, h, by show (L.length : Int) ≤ n; omega, h4⟩
  | succ k ih =>
    intro at_ i p st L h h0 h1 h2 h3 h4 h5
    by_cases c : i < n
    · rw [spec_l2DrawSet.l0, if_pos c]
      refine step_ex (next_ex h hl 6 (by omega) (by omega)) fun a ha => ?_
      refine step_ex (next_ex ha.1 hl 6 (by omega) (by omega)) fun b hb => ?_
      refine step_ex (p := fun e : Int × Int × Int => DSrc l e.2.1 e.2.2 ∧ 0 ≤ e.1 ∧ e.1 < 18446744073709551616) ?_ fun j hj => ?_
      · split
        · exact step_ex (next_ex hb.1 hl 1099511627776 (by omega) (by omega)) fun d hd => ⟨_, rfl, hd.1, wu64_rng _⟩
        · exact ⟨_, rfl, hb.1, wu64_rng _⟩
      · by_cases d : j.1 < IntKind.u64.wrap (at_ + IntKind.u64.wrap a.1)
        · rw [if_pos d]; exact ⟨_, rfl, hj.1, by show (L.length : Int) ≤ n; omega, h4⟩
        · rw [if_neg d, if_pos (by omega), wi64_in (n := i + 1) (by omega) (by omega)]
          exact ih _ _ _ _ _ hj.1 (by omega) (by omega) (by omega) (by simp only [List.length_append, List.length_cons, List.length_nil]; omega) (rngL_snoc h4 (wu64_rng _) hj.2) (wu64_rng _)
    · rw [spec_l2DrawSet.l0, if_neg c]
      exact ⟨_, rfl, h, by show (L.length : Int) ≤ n; omega, h4⟩
theorem drawset_ex {l : List Int} {p st : Int} (h : DSrc l p st) (hl : l.length ≤ 1048576) : ∃ e, spec_l2DrawSet.f l p st 12 = some e ∧ DSrc l e.2.1 e.2.2 ∧ e.1.length ≤ 12 ∧ rngL e.1 := by
  unfold spec_l2DrawSet.f
  refine step_ex (next_ex h hl 5 (by omega) (by omega)) fun a ha => ?_
  refine step_ex (p := fun e : Int × Int × Int => DSrc l e.2.1 e.2.2 ∧ 0 ≤ e.1 ∧ e.1 < 18446744073709551616) ?_ fun j hj => ?_
  · refine step_ex (next_ex ha.1 hl 6 (by omega) (by omega)) fun b hb => ?_
    split
    · exact step_ex (word_ex hb.1 hl) fun d hd => ⟨_, rfl, hd.1, hd.2⟩
    · exact ⟨_, rfl, hb.1, wu64_rng _⟩
  rw [wi64_in (n := 12 + 1) (by omega) (by omega)]
  refine step_ex (next_ex hj.1 hl (12 + 1) (by omega) (by omega)) fun b hb => ?_
  refine step_ex (next_ex hb.1 hl 3 (by omega) (by omega)) fun d hd => ?_
  refine step_ex (drawset_loop l hl b.1 (by omega) _ 12 j.1 0 d.2.1 d.2.2 [] hd.1 (by omega) (by omega) (by omega) (by simp) rngL_nil hj.2) fun y hy => ?_
  cases y with
  | b z => exact ⟨_, rfl, hy.1, by have := hy.2.1; show z.2.2.length ≤ 12; omega, hy.2.2⟩
  | a z =>
    obtain ⟨z1, z2, z3⟩ := hy
    refine step_ex (p := fun e : Int × Int × List S31 => DSrc l e.1 e.2.1 ∧ e.2.2.length ≤ 12 ∧ rngL e.2.2) ?_ fun j hj => ⟨_, rfl, hj⟩
    refine step_ex (p := fun e : Bool × Int × Int => DSrc l e.2.1 e.2.2 ∧ (e.1 = true → 0 < z.2.2.length)) ?_ fun e he => ?_
    · refine step_ex (next_ex z1 hl 12 (by omega) (by omega)) fun b hb => ?_
      split
      · exact ⟨_, rfl, hb.1, fun hh => by have := of_decide_eq_true hh; omega⟩
      · exact ⟨_, rfl, hb.1, fun hh => absurd hh nft⟩
    · by_cases c : e.1 = true
      · have := he.2 c
        rw [if_pos c, wi64_in (n := (z.2.2.length : Int) - 1) (by omega) (by omega), if_pos (by omega)]
        refine ⟨_, rfl, he.1, by simp only [List.length_set]; omega, rngL_set z3 (z3 _ (rd_mem (by omega) (by omega))).1 (by omega)⟩
      · rw [if_neg c]; exact ⟨_, rfl, he.1, by show z.2.2.length ≤ 12; omega, z3⟩
theorem drawargs_loop (l : List Int) (n a b d e : Int) (hn : n ≤ 2000) (k : Nat) : ∀ (i : Int) (L : List S31), 0 ≤ i → i ≤ n → n - i ≤ k → (L.length : Int) = i → rngL L → ∃ y, spec_l2DrawArgs.l0 l n a b d e i L = some y ∧ (y.length : Int) = n ∧ rngL y := by
  induction k with
  | zero =>
    intro i L h0 h1 h2 h3 h4
    rw [spec_l2DrawArgs.l0, if_neg (by omega)]
    exact ⟨_, rfl, by omega, h4⟩
  | succ k ih =>
    intro i L h0 h1 h2 h3 h4
    by_cases c : i < n
    · rw [spec_l2DrawArgs.l0, if_pos c, if_pos (by omega), wi64_in (n := i + 1) (by omega) (by omega)]
      exact ih _ _ (by omega) (by omega) (by omega) (by simp only [List.length_append, List.length_cons, List.length_nil]; omega) (rngL_snoc h4 (wu64_rng _) (wu64_rng _))
    · rw [spec_l2DrawArgs.l0, if_neg c]
      exact ⟨_, rfl, by omega, h4⟩
/-- What the law is given: a set with ends of 64 bits, small or large, and a span. -/
structure ArgsOk (r : List S31 × Int × Int) : Prop where
  rng : rngL r.1
  len : r.1.length ≤ 12 ∨ 980 < r.1.length
  top : r.1.length ≤ 2000
  a : 0 ≤ r.2.1 ∧ r.2.1 < 18446744073709551616
  b : 0 ≤ r.2.2 ∧ r.2.2 < 18446744073709551616
theorem drawargs_ex (l : List Int) (hl : l.length ≤ 1048576) : ∃ r, spec_l2DrawArgs.f l = some r ∧ ArgsOk r := by
  unfold spec_l2DrawArgs.f
  refine step_ex (begin_ex l hl) fun s hs => ?_
  refine step_ex (drawset_ex hs hl) fun d hd => ?_
  obtain ⟨d1, d2, d3⟩ := hd
  refine step_ex (next_ex d1 hl 20 (by omega) (by omega)) fun k hk => ?_
  by_cases c : k.1 = 0
  · rw [if_pos c]
    refine step_ex (next_ex hk.1 hl 3 (by omega) (by omega)) fun t ht => ?_
    rw [wi64_in (n := 999 + t.1) (by omega) (by omega)]
    refine step_ex (drawargs_loop l (999 + t.1) 0 0 t.2.1 t.2.2 (by omega) 2000 0 [] (by omega) (by omega) (by omega) rfl rngL_nil) fun y hy => ?_
    refine step_ex (next_ex ht.1 hl 4100 (by omega) (by omega)) fun u hu => ?_
    refine step_ex (next_ex hu.1 hl 3 (by omega) (by omega)) fun v hv => ?_
    refine step_ex (next_ex hv.1 hl 2 (by omega) (by omega)) fun w hw => ?_
    exact ⟨_, rfl, ⟨hy.2, by right; have := hy.1; show 980 < y.length; omega, by have := hy.1; show y.length ≤ 2000; omega, wu64_rng _, wu64_rng _⟩⟩
  · rw [if_neg c]
    have fin : ∀ (L : List S31) (a b : Int), L.length = d.1.length → rngL L → (0 ≤ a ∧ a < 18446744073709551616) → (0 ≤ b ∧ b < 18446744073709551616) → ArgsOk (L, a, b) := by
      intro L a b h1 h2 h3 h4
      exact ⟨h2, by left; show L.length ≤ 12; omega, by show L.length ≤ 2000; omega, h3, h4⟩
    refine step_ex (next_ex hk.1 hl 90 (by omega) (by omega)) fun t ht => ?_
    refine step_ex (p := fun e : Int × Int × Int => (0 ≤ e.1 ∧ e.1 < 18446744073709551616) ∧ DSrc l e.2.1 e.2.2) ?_ fun j hj => ?_
    · refine step_ex (p := fun e : Bool × Int × Int => DSrc l e.2.1 e.2.2 ∧ (e.1 = true → 0 < d.1.length)) ?_ fun e he => ?_
      · split
        · exact step_ex (next_ex ht.1 hl 3 (by omega) (by omega)) fun u hu => ⟨_, rfl, hu.1, fun _ => by omega⟩
        · exact ⟨_, rfl, ht.1, fun hh => absurd hh nft⟩
      · by_cases c2 : e.1 = true
        · have := he.2 c2
          rw [if_pos c2]
          refine step_ex (next_ex he.1 hl d.1.length (by omega) (by omega)) fun u hu => ?_
          rw [if_pos hu.2]
          have hm := d3 _ (rd_mem (z := z31) hu.2.1 hu.2.2)
          refine step_ex (p := fun e : Int × Int × Int => (0 ≤ e.1 ∧ e.1 < 18446744073709551616) ∧ DSrc l e.2.1 e.2.2) ?_ fun v hv => ?_
          · refine step_ex (next_ex hu.1 hl 2 (by omega) (by omega)) fun w hw => ?_
            split
            · exact ⟨_, rfl, hm.2, hw.1⟩
            · exact ⟨_, rfl, hm.1, hw.1⟩
          · exact step_ex (next_ex hv.2 hl 3 (by omega) (by omega)) fun w hw => ⟨_, rfl, wu64_rng _, hw.1⟩
        · rw [if_neg c2]; exact ⟨_, rfl, wu64_rng _, he.1⟩
    obtain ⟨j1, j2⟩ := hj
    refine step_ex (next_ex j2 hl 25 (by omega) (by omega)) fun u hu => ?_
    refine step_ex (next_ex hu.1 hl 20 (by omega) (by omega)) fun v hv => ?_
    refine step_ex (p := fun e : List S31 × Int × Int => ArgsOk (e.1, e.2.1, e.2.2)) ?_ fun e he => ⟨_, rfl, he⟩
    split
    · exact ⟨_, rfl, fin _ _ _ rfl d3 j1 (wu64_rng _)⟩
    split
    · exact ⟨_, rfl, fin _ _ 18446744073709551615 rfl d3 j1 ⟨by decide, by decide⟩⟩
    split
    · exact ⟨_, rfl, fin _ 0 18446744073709551615 rfl d3 ⟨by decide, by decide⟩ ⟨by decide, by decide⟩⟩
    refine step_ex (p := fun e : Bool => e = true → 1 < d.1.length) ?_ fun e he => ?_
    · split
      · exact ⟨_, rfl, fun hh => by have := of_decide_eq_true hh; omega⟩
      · exact ⟨_, rfl, fun hh => absurd hh nft⟩
    by_cases c3 : e = true
    · have h1 := he c3
      rw [if_pos c3, wi64_in (n := (d.1.length : Int) - 1) (by omega) (by omega)]
      refine step_ex (next_ex hv.1 hl ((d.1.length : Int) - 1) (by omega) (by omega)) fun w hw => ?_
      rw [wi64_in (n := 1 + w.1) (by omega) (by omega), wi64_in (n := 1 + w.1 - 1) (by omega) (by omega), if_pos (by omega)]
      refine step_ex (next_ex hw.1 hl 2 (by omega) (by omega)) fun x hx => ?_
      rw [if_pos (by omega)]
      exact ⟨_, rfl, fin _ _ _ (List.length_set ..) (rngL_set d3 (wu64_rng _) (d3 _ (rd_mem (by omega) (by omega))).2) j1 (wu64_rng _)⟩
    · rw [if_neg c3]
      refine step_ex (p := fun e : Bool => e = true → 0 < d.1.length) ?_ fun e he => ?_
      · split
        · exact ⟨_, rfl, fun hh => by have := of_decide_eq_true hh; omega⟩
        · exact ⟨_, rfl, fun hh => absurd hh nft⟩
      by_cases c4 : e = true
      · have h1 := he c4
        have hm := d3 _ (rd_mem (z := z31) (l := d.1) (i := 0) (by omega) (by omega))
        rw [if_pos c4, if_pos (by omega)]
        exact ⟨_, rfl, fin _ _ _ (List.length_set ..) (rngL_set d3 hm.1 hm.1) j1 (wu64_rng _)⟩
      · rw [if_neg c4]; exact ⟨_, rfl, fin _ _ _ rfl d3 j1 (wu64_rng _)⟩
theorem drawadd_ex (l : List Int) (hl : l.length ≤ 1048576) : ∃ r, spec_DrawSpanAdd.f l = some r ∧ ArgsOk r := by
  unfold spec_DrawSpanAdd.f
  exact step_ex (drawargs_ex l hl) fun r hr => ⟨_, rfl, hr⟩
end Go.AK
