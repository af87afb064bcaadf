/- The law FnExactReorderRun: take and end, both sides. Conditions: none beyond bounds. -/
import Derived.Test.YtlladicdmmdboaaPureReorderState2
set_option linter.unusedSimpArgs false
set_option linter.unusedVariables false
namespace Go.AK
open Go
theorem next_spec (b c d tk : Int) (e : Bool) (got : List Int) (hl : got.length < 2199023255552) (n : Nat) : ∀ i : Int, 0 ≤ i → i ≤ 2199023255552 → (got.length : Int) - i ≤ n → ∃ q, spec_l5Next.l0 b c got tk d e i = some q ∧ i ≤ q ∧ (q ≤ i ∨ q ≤ got.length) ∧ (∀ p, i ≤ p → p < q → 0 ≤ gat got p) ∧ gat got q < 0 := by
  induction n with
  | zero =>
    intro i h0 h1 h2
    have : gat got i = -1 := if_neg (by omega)
    rw [spec_l5Next.l0, l5At_is _ _ _ _ _ _ _ h0, some_bind, this, if_neg (by omega)]
    exact ⟨i, rfl, Int.le_refl _, .inl (Int.le_refl _), fun p p0 p1 => by omega, by omega⟩
  | succ n ih =>
    intro i h0 h1 h2
    rw [spec_l5Next.l0, l5At_is _ _ _ _ _ _ _ h0, some_bind]
    by_cases k : gat got i ≥ 0
    · have : i < got.length := by
        unfold gat at k
        split at k
        · assumption
        · omega
      rw [if_pos k, wi64_in (by omega) (by omega)]
      obtain ⟨q, q1, q2, q3, q4, q5⟩ := ih (i + 1) (by omega) (by omega) (by omega)
      refine ⟨q, q1, by omega, .inr (by omega), fun p p0 p1 => ?_, q5⟩
      by_cases e : p = i
      · rw [e]; exact k
      · exact q4 p (by omega) p1
    · rw [if_neg k]
      exact ⟨i, rfl, Int.le_refl _, .inl (Int.le_refl _), fun p p0 p1 => by omega, by omega⟩
theorem next_impl (b c d tk : Int) (e : Bool) (g : Int → Int) (by_ : List Int) (hv : List Bool) (hb : 0 ≤ b ∧ b ≤ 4611686018427387904) (hc : c ≤ 4096) (ht : 0 ≤ tk ∧ tk ≤ 1099511627776) (hw : Win b c tk g by_ hv) (q : Int) (hq : q ≤ tk + c) (hq1 : ∀ p, tk ≤ p → p < q → 0 ≤ g p) (hq2 : g q < 0) (n : Nat) :
    ∀ i : Int, tk ≤ i → i + n = q → impl_buffer_next.l0 c by_ hv (b + tk) e d (b + i) = some (b + q) := by
  have hc0 := hw.hc
  have e1 : IntKind.u64.wrap (b + tk + c) = b + tk + c := wu64_in (by omega) (by omega)
  induction n with
  | zero =>
    intro i h0 h1
    obtain ⟨s0, s1, s2⟩ := hw.slot (b + i)
    obtain rfl : i = q := by omega
    rw [impl_buffer_next.l0, e1]
    by_cases k : b + i < b + tk + c
    · rw [if_pos k, if_pos (show ¬ c = 0 by omega), Int.tmod_eq_emod_of_nonneg (by omega), if_pos (show 0 ≤ (b + i) % c ∧ (b + i) % c < hv.length from ⟨s0, s1⟩), hw.have_ i h0 (by omega), decide_eq_false (by omega), some_bind, if_neg (by decide)]
    · rw [if_neg k, some_bind, if_neg (by decide)]
  | succ n ih =>
    intro i h0 h1
    obtain ⟨s0, s1, s2⟩ := hw.slot (b + i)
    rw [impl_buffer_next.l0, e1, if_pos (by omega), if_pos (show ¬ c = 0 by omega), Int.tmod_eq_emod_of_nonneg (by omega), if_pos (show 0 ≤ (b + i) % c ∧ (b + i) % c < hv.length from ⟨s0, s1⟩), hw.have_ i h0 (by omega), decide_eq_true (hq1 i h0 (by omega)), some_bind, if_pos rfl,
      wu64_in (n := b + i + 1) (by omega) (by omega), show b + i + 1 = b + (i + 1) by omega]
    exact ih (i + 1) (by omega) (by omega)
theorem take_loop (b c d tk q a1 j : Int) (e : Bool) (got by_ : List Int) (u1 u2 u3 w1 w2 : Int) (ul wl : List Int) (hb : 0 ≤ b ∧ b ≤ 4611686018427387904) (hc : c ≤ 4096) (ht : 0 ≤ tk ∧ tk ≤ 1099511627776) (hg : Got c tk got) (hq : q ≤ tk + c) (hq1 : ∀ p, tk ≤ p → p < q → 0 ≤ gat got p)
    (hj : j = min (q - tk) (max 0 a1)) (n : Nat) : ∀ (i : Int) (hv : List Bool) (out : List Int), 0 ≤ i → i + n = j → (out.length : Int) = i → Win b c (tk + i) (gat got) by_ hv →
    ∃ hv' out', spec_l5Take.l0 a1 q b c got d e u1 u2 ul u3 (tk + i) i out = some (tk + j, j, out') ∧ impl_buffer_get.l0 j j c by_ e d w1 w2 wl i hv (b + tk + i) out = some (hv', b + tk + j, out') ∧ (out'.length : Int) = j ∧ Win b c (tk + j) (gat got) by_ hv' := by
  induction n with
  | zero =>
    intro i hv out h0 h1 h2 hw
    have h1 : i = j := by omega
    have S : spec_l5Take.l0 a1 q b c got d e u1 u2 ul u3 (tk + i) i out = some (tk + i, i, out) := by
      rw [spec_l5Take.l0]
      by_cases k : tk + i < q
      · rw [if_pos k, some_bind, decide_eq_false (show ¬ i < a1 by omega), if_neg (by decide)]
      · rw [if_neg k, some_bind, if_neg (by decide)]
    have I : impl_buffer_get.l0 j j c by_ e d w1 w2 wl i hv (b + tk + i) out = some (hv, b + tk + i, out) := by
      rw [impl_buffer_get.l0, if_neg (by omega)]
    rw [S, I, h1]
    exact ⟨hv, out, rfl, rfl, by omega, h1 ▸ hw⟩
  | succ n ih =>
    intro i hv out h0 h1 h2 hw
    have hc0 := hw.hc
    have k : tk + i < q := by omega
    have g0 := hq1 (tk + i) (by omega) k
    have g1 := (gat_rng hg (p := tk + i) (by omega)).2
    have gl : tk + i < got.length := by
      unfold gat at g0
      split at g0
      · assumption
      · omega
    have ge : gat got (tk + i) = rd 0 got (tk + i) := if_pos gl
    have hby := hw.byte (tk + i) (by omega) (by omega) g0
    obtain ⟨s0, s1, s2⟩ := hw.slot (b + (tk + i))
    have S : spec_l5Take.l0 a1 q b c got d e u1 u2 ul u3 (tk + i) i out = spec_l5Take.l0 a1 q b c got d e u1 u2 ul u3 (tk + (i + 1)) (i + 1) (out ++ [gat got (tk + i)]) := by
      conv => lhs; rw [spec_l5Take.l0]
      rw [if_pos k, some_bind, decide_eq_true (show i < a1 by omega), if_pos rfl, if_pos (show 0 ≤ tk + i ∧ tk + i < got.length from ⟨by omega, gl⟩), if_pos (by omega), ← ge, wu8_in g0 g1, wi64_in (n := tk + i + 1) (by omega) (by omega), wi64_in (n := i + 1) (by omega) (by omega), Int.add_assoc]
    have I : impl_buffer_get.l0 j j c by_ e d w1 w2 wl i hv (b + tk + i) out = impl_buffer_get.l0 j j c by_ e d w1 w2 wl (i + 1) (hv.set ((b + (tk + i)) % c).toNat false) (b + tk + (i + 1)) (out ++ [gat got (tk + i)]) := by
      conv => lhs; rw [impl_buffer_get.l0]
      rw [if_pos (by omega), if_pos (show ¬ c = 0 by omega), Int.tmod_eq_emod_of_nonneg (by omega), Int.add_assoc b tk i, if_pos (show 0 ≤ (b + (tk + i)) % c ∧ (b + (tk + i)) % c < by_.length from ⟨s0, s2⟩), if_pos (by omega), if_pos (show 0 ≤ (b + (tk + i)) % c ∧ (b + (tk + i)) % c < hv.length from ⟨s0, s1⟩), hby,
        wu64_in (n := i + 1) (by omega) (by omega), wu64_in (n := b + (tk + i) + 1) (by omega) (by omega), show b + (tk + i) + 1 = b + tk + (i + 1) by omega]
    rw [S, I]
    have hw' := hw.take
    rw [Int.add_assoc] at hw'
    exact ih (i + 1) _ _ (by omega) (by omega) (len_snoc h2) hw'
theorem take_both (b c d tk a1 : Int) (e : Bool) (got by_ : List Int) (hv : List Bool) (hb : 0 ≤ b ∧ b ≤ 4611686018427387904) (hc : c ≤ 4096) (ht : 0 ≤ tk ∧ tk ≤ 1099511627776) (ha : -9223372036854775808 ≤ a1 ∧ a1 ≤ 9223372036854775807) (hg : Got c tk got) (hw : Win b c tk (gat got) by_ hv) :
    ∃ code n out tk' hv', spec_l5Take.f b c got tk d e a1 = some (code, n, out, tk') ∧ impl_buffer_get.f c by_ hv (b + tk) e d a1 = some (code, n, out, hv', b + tk') ∧ tk ≤ tk' ∧ tk' ≤ tk + c ∧ out.length ≤ 4096 ∧ Win b c tk' (gat got) by_ hv' := by
  have hc0 := hw.hc
  have hlen := hg.len
  obtain ⟨q, q1, q2, q3, q4, q5⟩ := next_spec b c d tk e got (by omega) got.length tk ht.1 (by omega) (by omega)
  have hq : q ≤ tk + c := by omega
  have I1 := next_impl b c d tk e (gat got) by_ hv hb hc ht hw q hq q4 q5 (q - tk).toNat tk (Int.le_refl _) (by omega)
  obtain ⟨j, hj⟩ : ∃ j, j = min (q - tk) (max 0 a1) := ⟨_, rfl⟩
  obtain ⟨hv', out', T1, T2, T3, T4⟩ := take_loop b c d tk q a1 j e got by_ 0 0 0 0 0 [] [] hb hc ht hg hq q4 hj j.toNat 0 hv [] (by omega) (by omega) rfl (by rw [Int.add_zero]; exact hw)
  rw [Int.add_zero] at T1
  rw [Int.add_zero] at T2
  refine ⟨if j = 0 ∧ e = true ∧ b + (tk + j) = d then 15 else 0, j, out', tk + j, hv', ?_, ?_, by omega, by omega, by omega, T4⟩
  · unfold spec_l5Take.f spec_l5Next.f
    rw [q1, some_bind, some_bind, T1, some_bind]
    simp only
    by_cases j0 : j = 0
    · rw [if_pos j0]
      cases e with
      | false => rw [if_neg (by simp), if_neg (by simp), some_bind, if_neg (by decide), some_bind]
      | true =>
        rw [if_pos rfl, l5Read_is _ _ _ _ _ _ hb (by omega), some_bind, some_bind]
        by_cases k : b + (tk + j) = d
        · rw [decide_eq_true k, if_pos rfl, if_pos ⟨j0, rfl, k⟩, some_bind]
        · rw [decide_eq_false k, if_neg (by decide), if_neg (fun h => k h.2.2), some_bind]
    · rw [if_neg j0, if_neg (fun h => j0 h.1), some_bind, if_neg (by decide), some_bind]
  · unfold impl_buffer_get.f impl_buffer_next.f
    rw [I1, some_bind, some_bind]
    have e1 : IntKind.u64.wrap (b + q - (b + tk)) = q - tk := (wu64_in (by omega) (by omega)).trans (by omega)
    have e2 : IntKind.u64.wrap (if 0 > a1 then 0 else a1) = max 0 a1 := by split <;> rw [wu64_in (by omega) (by omega)] <;> omega
    have e3 : (if q - tk < max 0 a1 then q - tk else max 0 a1) = j := by split <;> omega
    rw [e1, e2, e3, T2, some_bind, wi64_in (n := j) (by omega) (by omega)]
    simp only
    rw [Int.add_assoc]
    by_cases j0 : j = 0
    · rw [if_pos j0]
      cases e with
      | false => rw [if_neg (by simp), if_neg (by simp), some_bind, if_neg (by decide), some_bind]
      | true =>
        rw [if_pos rfl, some_bind]
        by_cases k : b + (tk + j) = d
        · rw [decide_eq_true k, if_pos rfl, if_pos ⟨j0, rfl, k⟩, some_bind]
        · rw [decide_eq_false k, if_neg (by decide), if_neg (fun h => k h.2.2), some_bind]
    · rw [if_neg j0, if_neg (fun h => j0 h.1), some_bind, if_neg (by decide), some_bind]
end Go.AK
