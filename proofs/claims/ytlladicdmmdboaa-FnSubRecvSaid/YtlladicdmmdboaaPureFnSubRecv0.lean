/- What is drawn: the source of numbers, and a sender's configuration. Conditions: bounds. -/
import Derived.Test.YtlladicdmmdboaaUFnSubRecv2
import Derived.Test.YtlladicdmmdboaaAk2
set_option linter.unusedSimpArgs false
set_option linter.unusedVariables false
namespace Go.AK
open Go
theorem nft : ¬ (false = true) := fun h => by cases h
structure DSrc (l : List Int) (p st : Int) : Prop where
  p0 : 0 ≤ p
  p1 : p ≤ l.length
  s : 0 ≤ st ∧ st < 18446744073709551616
theorem next_ok {l : List Int} {p st : Int} (h : DSrc l p st) (hl : l.length ≤ 1048576) (n : Int) (hn : n ≤ 9223372036854775807) :
    ∃ v p' st', spec_l1Next.f l p st n = some (v, p', st') ∧ DSrc l p' st' ∧ 0 ≤ v ∧ (0 < n → v < n) ∧ (n ≤ 0 → v = 0) := by
  have h0 := h.p0
  have h1 := h.p1
  unfold spec_l1Next.f
  by_cases c : n ≤ 0
  · rw [if_pos c]; exact ⟨_, _, _, rfl, h, Int.le_refl _, fun hh => by omega, fun _ => rfl⟩
  · rw [if_neg c]
    have hw := wu64_rng (IntKind.u64.wrap (st * 6364136223846793005) + 1442695040888963407)
    have hfd : ∀ x : Int, 0 ≤ x → x < 18446744073709551616 → 0 ≤ x.fdiv (2 ^ 33) ∧ x.fdiv (2 ^ 33) < 18446744073709551616 := fun x a b => by
      rw [Int.fdiv_eq_ediv_of_nonneg _ (by decide)]; omega
    have hv : ∀ x : Int, 0 ≤ x → x < 18446744073709551616 → 0 ≤ IntKind.i64.wrap (x.tmod (IntKind.u64.wrap n)) ∧ IntKind.i64.wrap (x.tmod (IntKind.u64.wrap n)) < n := fun x a b => by
      rw [wu64_in (n := n) (by omega) (by omega), Int.tmod_eq_emod_of_nonneg a]
      have := Int.emod_nonneg x (show n ≠ 0 by omega)
      have := Int.emod_lt_of_pos x (show 0 < n by omega)
      rw [wi64_in (by omega) (by omega)]; omega
    have hz : ¬ IntKind.u64.wrap n = 0 := by rw [wu64_in (by omega) (by omega)]; omega
    by_cases c2 : p < (l.length : Int)
    · have hx := xor64_rng ((IntKind.u64.wrap (IntKind.u64.wrap (st * 6364136223846793005) + 1442695040888963407)).fdiv (2 ^ 33)) (IntKind.u64.wrap (rd 0 l p))
      rw [if_pos c2, if_pos ⟨h0, c2⟩, some_bind, if_pos hz, wi64_in (n := p + 1) (by omega) (by omega)]
      have := hv _ hx.1 hx.2
      exact ⟨_, _, _, rfl, ⟨by show 0 ≤ p + 1; omega, by show p + 1 ≤ _; omega, hw⟩, this.1, fun _ => this.2, fun hh => by omega⟩
    · rw [if_neg c2, some_bind, if_pos hz]
      have hf := hfd _ hw.1 hw.2
      have := hv _ hf.1 hf.2
      exact ⟨_, _, _, rfl, ⟨h0, h1, hw⟩, this.1, fun _ => this.2, fun hh => by omega⟩
theorem begin_loop (l : List Int) (u1 : List Int) (u2 u3 u4 : Int) (hl : l.length ≤ 1048576) (s : List Int) : ∀ (i st : Int), 0 ≤ i → l.drop i.toNat = s → 0 ≤ st ∧ st < 18446744073709551616 → ∃ r, spec_l1Begin.l0 l u1 u2 u3 u4 i st = some r ∧ 0 ≤ r ∧ r < 18446744073709551616 := by
  induction s with
  | nil => intro i st h0 hd hs; rw [spec_l1Begin.l0, if_neg (suf_nil h0 hd)]; exact ⟨_, rfl, hs⟩
  | cons e t ih =>
    intro i st h0 hd hs
    obtain ⟨q1, q2, q3⟩ := suf_cons h0 hd 0
    rw [spec_l1Begin.l0, if_pos q1, if_pos ⟨h0, q1⟩, wi64_in (n := i + 1) (by omega) (by omega)]
    exact ih (i + 1) _ (by omega) q3 (wu64_rng _)
theorem begin_ok (l : List Int) (hl : l.length ≤ 1048576) : ∃ p st, spec_l1Begin.f l = some (p, st) ∧ DSrc l p st := by
  unfold spec_l1Begin.f
  obtain ⟨r, r1, r2⟩ := begin_loop l [] 0 0 0 hl l 0 1469598103934665603 (by omega) rfl (by omega)
  rw [r1, some_bind]
  exact ⟨_, _, rfl, by omega, by omega, r2⟩
structure Cfg (I W R MR DA PE : Int) : Prop where
  i : 0 ≤ I ∧ I < 4294967296
  w : 1 ≤ W ∧ W ≤ 16
  r : 1 ≤ R ∧ R ≤ 50
  m : R ≤ MR ∧ MR ≤ 400
  a : 1 ≤ DA ∧ DA ≤ 8
  p : 1 ≤ PE ∧ PE ≤ 50
theorem config_ok {l : List Int} {p st : Int} (h : DSrc l p st) (hl : l.length ≤ 1048576) : ∃ I W R MR DA PE p' st', spec_l4DrawConfig.f l p st = some (I, W, R, MR, DA, PE, p', st') ∧ Cfg I W R MR DA PE ∧ DSrc l p' st' := by
  unfold spec_l4DrawConfig.f
  obtain ⟨v1, p1, s1, e1, h1, a1, b1, _⟩ := next_ok h hl 100 (by omega)
  obtain ⟨v2, p2, s2, e2, h2, a2, b2, _⟩ := next_ok h1 hl 6 (by omega)
  obtain ⟨v3, p3, s3, e3, h3, a3, b3, _⟩ := next_ok h2 hl 4 (by omega)
  obtain ⟨v4, p4, s4, e4, h4, a4, b4, _⟩ := next_ok h3 hl 4 (by omega)
  obtain ⟨v5, p5, s5, e5, h5, a5, b5, _⟩ := next_ok h4 hl 4 (by omega)
  obtain ⟨v6, p6, s6, e6, h6, a6, b6, _⟩ := next_ok h5 hl 2 (by omega)
  simp only [e1, e2, e3, e4, e5, e6, some_bind]
  have J : ∃ p7 s7 I, ((if v6 = 0 then (spec_l1Next.f l p6 s6 12 >>= fun t27 => (some (t27.2.1, t27.2.2, IntKind.u32.wrap (4294967295 - (IntKind.u32.wrap t27.1))))) else (some (p6, s6, IntKind.u32.wrap v1))) : Option (Int × Int × Int)) = some (p7, s7, I) ∧ DSrc l p7 s7 ∧ 0 ≤ I ∧ I < 4294967296 := by
    split
    · obtain ⟨v7, p7, s7, e7, h7, a7, b7, _⟩ := next_ok h6 hl 12 (by omega)
      rw [e7, some_bind]; exact ⟨_, _, _, rfl, h7, wu32_rng _⟩
    · exact ⟨_, _, _, rfl, h6, wu32_rng _⟩
  obtain ⟨p7, s7, I, e7, h7, hI⟩ := J
  obtain ⟨v8, p8, s8, e8, h8, a8, b8, _⟩ := next_ok h7 hl 12 (by omega)
  obtain ⟨v9, p9, s9, e9, h9, a9, b9, _⟩ := next_ok h8 hl 10 (by omega)
  simp only [e7, e8, e9, some_bind]
  have b2 := b2 (by omega)
  have b3 := b3 (by omega)
  have b4 := b4 (by omega)
  have b5 := b5 (by omega)
  have b8 := b8 (by omega)
  have w1 : IntKind.i64.wrap (1 + v2) = 1 + v2 := wi64_in (by omega) (by omega)
  have w2 : IntKind.i64.wrap (1 + v3) = 1 + v3 := wi64_in (by omega) (by omega)
  have w3 : IntKind.i64.wrap (1 + v3 + v8) = 1 + v3 + v8 := wi64_in (by omega) (by omega)
  have w4 : IntKind.i64.wrap (1 + v4) = 1 + v4 := wi64_in (by omega) (by omega)
  have w5 : IntKind.i64.wrap (1 + v5) = 1 + v5 := wi64_in (by omega) (by omega)
  simp only [w1, w2, w3, w4, w5]
  by_cases c : v9 = 0
  · rw [if_pos c, some_bind]; dsimp only; exact ⟨_, _, _, _, _, _, _, _, rfl, ⟨hI, by omega, by omega, by omega, by omega, by omega⟩, h9⟩
  · rw [if_neg c, some_bind]; dsimp only; exact ⟨_, _, _, _, _, _, _, _, rfl, ⟨hI, by omega, by omega, by omega, by omega, by omega⟩, h9⟩
end Go.AK
