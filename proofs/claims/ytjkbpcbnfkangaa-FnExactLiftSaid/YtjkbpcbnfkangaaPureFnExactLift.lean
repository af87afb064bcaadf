/- For every number of 64 bits and every one of 32, the program's Lift is the reference's, number and code. No condition. -/
import Derived.Test.YtjkbpcbnfkangaaPFnExactLiftx1
import Derived.Test.YtjkbpcbnfkangaaBase
namespace Go.Proofs.Ytjkbpcbnfkangaa.Pure
open Go.RowKit Go.Proofs.Ytjkbpcbnfkangaa.PFnExactLift Go.Proofs.YtjkbpcbnfkangaaW.PrintWords Go.Proofs.YtjkbpcbnfkangaaW.PrintLast

set_option linter.unusedVariables false
theorem lift_skip (k : Nat) (s hi lo h : Int) (hs : 0 ≤ s ∧ s ≤ 4294967295) (hl : 0 ≤ lo ∧ lo ≤ 4294967295) (hh : 0 ≤ hi ∧ hi ≤ 4294967295) (h1 : hi - 1 ≤ h) (h2 : h ≤ hi + 1)
    (out : (h - hi) * 4294967296 + s - lo < -2147483648 ∨ (h - hi) * 4294967296 + s - lo ≥ 2147483648) :
    spec_Lift.l0 (k + 2) s hi lo h = spec_Lift.l0 k s hi lo (h + 1) := by
  have e1 : wrap64 (hi + 1) = hi + 1 := Base.w64_in (by omega) (by omega)
  have e2 : wrap64 (h - hi) = h - hi := Base.w64_in (by omega) (by omega)
  have e3 : wrap64 ((h - hi) * 4294967296) = (h - hi) * 4294967296 := Base.w64_in (by omega) (by omega)
  have e4 : wrap64 s = s := Base.w64_in (by omega) (by omega)
  have e5 : wrap64 ((h - hi) * 4294967296 + s) = (h - hi) * 4294967296 + s := Base.w64_in (by omega) (by omega)
  have e6 : wrap64 ((h - hi) * 4294967296 + s - lo) = (h - hi) * 4294967296 + s - lo := Base.w64_in (by omega) (by omega)
  have e7 : wrap64 (h + 1) = h + 1 := Base.w64_in (by omega) (by omega)
  simp only [spec_Lift.l0]
  rw [e1, e2, e3, e4, e5, e6, if_pos h2]
  by_cases g : (h - hi) * 4294967296 + s - lo < -2147483648
  · rw [if_pos g]; simp only [spec_Lift.j1]; rw [if_pos trivial, e7]
  · rw [if_neg g, decide_eq_true (by omega)]; simp only [spec_Lift.j1]; rw [if_pos trivial, e7]

theorem lift_hit (k : Nat) (s hi lo h : Int) (hs : 0 ≤ s ∧ s ≤ 4294967295) (hl : 0 ≤ lo ∧ lo ≤ 4294967295) (hh : 0 ≤ hi ∧ hi ≤ 4294967295) (h1 : hi - 1 ≤ h) (h2 : h ≤ hi + 1)
    (g1 : -2147483648 ≤ (h - hi) * 4294967296 + s - lo) (g2 : (h - hi) * 4294967296 + s - lo < 2147483648) :
    spec_Lift.l0 (k + 2) s hi lo h = some (if h < 0 ∨ h ≥ 4294967296 then (0, 4) else (h * 4294967296 + s, 0)) := by
  have e1 : wrap64 (hi + 1) = hi + 1 := Base.w64_in (by omega) (by omega)
  have e2 : wrap64 (h - hi) = h - hi := Base.w64_in (by omega) (by omega)
  have e3 : wrap64 ((h - hi) * 4294967296) = (h - hi) * 4294967296 := Base.w64_in (by omega) (by omega)
  have e4 : wrap64 s = s := Base.w64_in (by omega) (by omega)
  have e5 : wrap64 ((h - hi) * 4294967296 + s) = (h - hi) * 4294967296 + s := Base.w64_in (by omega) (by omega)
  have e6 : wrap64 ((h - hi) * 4294967296 + s - lo) = (h - hi) * 4294967296 + s - lo := Base.w64_in (by omega) (by omega)
  simp only [spec_Lift.l0]
  rw [e1, e2, e3, e4, e5, e6, if_pos h2, if_neg (by omega), decide_eq_false (by omega)]
  simp only [spec_Lift.j1]
  by_cases n : h < 0
  · rw [if_neg (by decide), if_pos n, if_pos (.inl n)]
  · by_cases m : h ≥ 4294967296
    · rw [if_neg (by decide), if_neg n, if_pos m, if_pos (.inr m)]
    · rw [if_neg (by decide), if_neg n, if_neg m, if_neg (by omega)]
      rw [Base.u64_in (n := h) (by omega) (by omega), Base.u64_in (n := h * 4294967296) (by omega) (by omega), Base.u64_in (n := s) (by omega) (by omega), Base.u64_in (by omega) (by omega)]

/-- What both come to. -/
def lifted (a s : Int) : Int × Int :=
  let d := (s - a + 2147483648) % 4294967296 - 2147483648
  if a + d < 0 ∨ a + d ≥ 18446744073709551616 then (0, 4) else (a + d, 0)

theorem spec_is (a s : Int) (ha : 0 ≤ a ∧ a ≤ 18446744073709551615) (hs : 0 ≤ s ∧ s ≤ 4294967295) : spec_Lift.f 8 a s = some (lifted a s) := by
  unfold spec_Lift.f
  have hh : 0 ≤ a / 4294967296 ∧ a / 4294967296 ≤ 4294967295 := by omega
  have hl : 0 ≤ a % 4294967296 ∧ a % 4294967296 ≤ 4294967295 := by omega
  rw [Base.u64_and32 ha.1 ha.2, Base.w64_in (n := a / 4294967296) (by omega) (by omega), Base.w64_in (n := a % 4294967296) (by omega) (by omega), Base.w64_in (n := a / 4294967296 - 1) (by omega) (by omega)]
  have hq := Int.mul_ediv_add_emod a 4294967296
  generalize a / 4294967296 = hi at *
  generalize a % 4294967296 = lo at *
  by_cases g1 : s - lo ≥ 2147483648
  · rw [lift_hit _ s hi lo _ hs hl hh (by omega) (by omega) (by omega) (by omega)]
    unfold lifted
    have hd : (s - a + 2147483648) % 4294967296 - 2147483648 = s - lo - 4294967296 := by omega
    simp only [hd]
    by_cases c : hi - 1 < 0 ∨ hi - 1 ≥ 4294967296
    · rw [if_pos c, if_pos (by omega)]
    · rw [if_neg c, if_neg (by omega)]; congr 2; omega
  · by_cases g2 : s - lo < -2147483648
    · rw [lift_skip _ s hi lo _ hs hl hh (by omega) (by omega) (by omega), lift_skip _ s hi lo _ hs hl hh (by omega) (by omega) (by omega), lift_hit _ s hi lo _ hs hl hh (by omega) (by omega) (by omega) (by omega)]
      unfold lifted
      have hd : (s - a + 2147483648) % 4294967296 - 2147483648 = s - lo + 4294967296 := by omega
      simp only [hd]
      by_cases c : hi - 1 + 1 + 1 < 0 ∨ hi - 1 + 1 + 1 ≥ 4294967296
      · rw [if_pos c, if_pos (by omega)]
      · rw [if_neg c, if_neg (by omega)]; congr 2; omega
    · rw [lift_skip _ s hi lo _ hs hl hh (by omega) (by omega) (by omega), lift_hit _ s hi lo _ hs hl hh (by omega) (by omega) (by omega) (by omega)]
      unfold lifted
      have hd : (s - a + 2147483648) % 4294967296 - 2147483648 = s - lo := by omega
      simp only [hd]
      by_cases c : hi - 1 + 1 < 0 ∨ hi - 1 + 1 ≥ 4294967296
      · rw [if_pos c, if_pos (by omega)]
      · rw [if_neg c, if_neg (by omega)]; congr 2; omega

theorem impl_is (a s : Int) (ha : 0 ≤ a ∧ a ≤ 18446744073709551615) (hs : 0 ≤ s ∧ s ≤ 4294967295) : impl_Lift.f a s = some (lifted a s) := by
  unfold impl_Lift.f impl_SerialDistance.f
  simp only [Option.bind_some]
  have hd : wrap64 (wrap32 ((s - a % 4294967296) % 4294967296)) = (s - a + 2147483648) % 4294967296 - 2147483648 := by
    unfold wrap64 wrap32; omega
  rw [hd]
  unfold lifted
  simp only []
  generalize hD : (s - a + 2147483648) % 4294967296 - 2147483648 = d
  have b : -2147483648 ≤ d ∧ d < 2147483648 := by omega
  by_cases n : d < 0
  · rw [if_pos n, Base.w64_in (n := -d) (by omega) (by omega), Base.u64_in (n := -d) (by omega) (by omega)]
    by_cases c : a < -d
    · rw [if_pos c, if_pos (by omega)]
    · rw [if_neg c, if_neg (by omega), if_neg (by omega)]
      simp only [Base.wr_u64]; congr 2; omega
  · rw [if_neg n]
    by_cases p : d > 0
    · rw [if_pos p, Base.u64_in (n := d) (by omega) (by omega), Base.u64_in (n := 18446744073709551615 - d) (by omega) (by omega)]
      by_cases c : a > 18446744073709551615 - d
      · rw [if_pos c, if_pos (by omega)]
      · rw [if_neg c, if_neg (by omega)]
        simp only [Base.wr_u64]; congr 2; omega
    · rw [if_neg p, if_neg (by omega)]
      simp only [Base.wr_u64]; congr 2; omega

theorem FnExactLift : laws_FnExactLift.Pure := by
  intro a0 a1 h0 h1
  have b0 := bounds_u64 h0
  have b1 := bounds_u32 h1
  refine ⟨8, ?_⟩
  unfold laws_FnExactLift.f
  rw [spec_is a0 a1 b0 b1, impl_is a0 a1 b0 b1]
  simp

end Go.Proofs.Ytjkbpcbnfkangaa.Pure
