/- For every config and every time, the program's FairBound is the reference's. No condition. -/
import Derived.Test.YtjkbpcbnfkangaaPFnExactFairBoundx3
import Derived.Test.YtjkbpcbnfkangaaEvB
namespace Go.Proofs.Ytjkbpcbnfkangaa.Pure
open Go.RowKit Go.Proofs.Ytjkbpcbnfkangaa.PFnExactFairBound Go.Proofs.YtjkbpcbnfkangaaW.PrintWords Go.Proofs.YtjkbpcbnfkangaaW.PrintLast Go.Proofs.Ytjkbpcbnfkangaa.Base

set_option maxHeartbeats 4000000 in
set_option maxRecDepth 100000 in
theorem sub_same (a b c d e f : Int) : spec_l4ConfigOK.f a b c d e f = impl_validSub.f a b c d e f := rfl
theorem pol_good {p : Int} (h1 : ¬ p < 1) (h2 : ¬ 4 < p) : ∃ a b, impl_policyOf.f p = some (a, b, true) := by
  have : p = 1 ∨ p = 2 ∨ p = 3 ∨ p = 4 := by omega
  rcases this with rfl | rfl | rfl | rfl
  · exact ⟨_, _, rfl⟩
  · exact ⟨_, _, rfl⟩
  · exact ⟨_, _, rfl⟩
  · exact ⟨_, _, rfl⟩
theorem pol_bad {p : Int} (h : p < 1 ∨ 4 < p) : ∃ a b, impl_policyOf.f p = some (a, b, false) := by
  unfold impl_policyOf.f
  rw [if_neg (by omega), if_neg (by omega), if_neg (by omega), if_neg (by omega)]
  exact ⟨_, _, rfl⟩
theorem sub_some (a b c d e f : Int) : ∃ r, impl_validSub.f a b c d e f = some r := by
  unfold impl_validSub.f
  repeat' (first | exact ⟨_, rfl⟩ | split)

theorem valid_same (a0 a1 a2 a3 a4 a5 a6 a7 a8 a9 a10 a11 : Int) :
    ∃ r, spec_l7ConfigOK.f 2 a0 a1 a2 a3 a4 a5 a6 a7 a8 a9 a10 a11 = some r ∧ impl_validConfig.f a0 a1 a2 a3 a4 a5 a6 a7 a8 a9 a10 a11 = some r := by
  unfold spec_l7ConfigOK.f impl_validConfig.f
  simp only [spec_l7ConfigOK.j0, spec_l7ConfigOK.j1, spec_l7SubConfig.f, impl_subOf.f, Option.bind_some, ge_iff_le, gt_iff_lt, sub_same]
  by_cases p : a1 < 1 ∨ 4 < a1
  · obtain ⟨x, y, e⟩ := pol_bad p
    refine ⟨false, ?_, by rw [e]; rfl⟩
    by_cases c0 : a0 < 1
    · rw [if_pos c0]; rfl
    rw [if_neg c0]
    by_cases c1 : 8 < a0
    · rw [if_pos c1]; rfl
    rw [if_neg c1]
    by_cases c2 : a1 < 1
    · rw [if_pos c2]; rfl
    rw [if_neg c2, if_pos (by omega)]; rfl
  obtain ⟨x, y, e⟩ := pol_good (p := a1) (by omega) (by omega)
  rw [e]; simp only [Option.bind_some, if_true]
  by_cases c0 : a0 < 1
  · rw [if_pos c0, if_neg (by omega)]; exact ⟨_, rfl, rfl⟩
  rw [if_neg c0, if_pos (show 1 ≤ a0 by omega)]
  by_cases c1 : 8 < a0
  · rw [if_pos c1, if_neg (by omega)]; exact ⟨_, rfl, rfl⟩
  rw [if_neg c1, if_pos (show a0 ≤ 8 by omega), if_neg (show ¬ a1 < 1 by omega), if_neg (show ¬ 4 < a1 by omega)]
  by_cases c2 : a3 < 1
  · rw [if_pos c2, if_neg (by omega)]; exact ⟨_, rfl, rfl⟩
  rw [if_neg c2, if_pos (show 1 ≤ a3 by omega)]
  by_cases c3 : 32 < a3
  · rw [if_pos (by simpa using c3), if_neg (by omega)]; exact ⟨_, rfl, rfl⟩
  rw [if_neg (by simpa using c3), if_pos (show a3 ≤ 32 by omega)]
  by_cases c4 : a4 < 1
  · rw [if_pos c4, if_neg (by omega)]; exact ⟨_, rfl, rfl⟩
  rw [if_neg c4, if_pos (show 1 ≤ a4 by omega)]
  by_cases c5 : 4096 < a4
  · rw [if_pos c5, if_neg (by omega)]; exact ⟨_, rfl, rfl⟩
  rw [if_neg c5, if_pos (show a4 ≤ 4096 by omega)]
  by_cases c6 : a5 < 1
  · rw [if_pos c6, if_neg (by omega)]; exact ⟨_, rfl, rfl⟩
  rw [if_neg c6, if_pos (show 1 ≤ a5 by omega)]
  by_cases c7 : 4096 < a5
  · rw [if_pos c7, if_neg (by omega)]; exact ⟨_, rfl, rfl⟩
  rw [if_neg c7, if_pos (show a5 ≤ 4096 by omega)]
  by_cases c8 : a6 < 1
  · rw [if_pos c8, if_neg (by omega)]; exact ⟨_, rfl, rfl⟩
  rw [if_neg c8, if_pos (show 1 ≤ a6 by omega)]
  by_cases c9 : 256 < a6
  · rw [if_pos (by simpa using c9), if_neg (by omega)]; exact ⟨_, rfl, rfl⟩
  rw [if_neg (by simpa using c9), if_pos (show a6 ≤ 256 by omega)]
  obtain ⟨r, er⟩ := sub_some ((a11 + 0) % 4294967296) a2 a7 a8 a9 a10
  simp only [er, Option.bind_some]
  exact ⟨r, rfl, rfl⟩

theorem FnExactFairBound : laws_FnExactFairBound.Pure := by
  intro a0 a1 a2 a3 a4 a5 a6 a7 a8 a9 a10 a11 t _ _
  refine ⟨2, ?_⟩
  obtain ⟨r, e1, e2⟩ := valid_same a0 a1 a2 a3 a4 a5 a6 a7 a8 a9 a10 a11
  unfold laws_FnExactFairBound.f
  simp only [laws_toConfig.f, Option.bind_some, spec_FairBound.f, impl_FairBound.f, e1, e2]
  cases r with
  | false => rfl
  | true =>
    simp only [if_true]
    by_cases c : t < 0
    · simp only [if_pos c, Option.bind_some, reduceIte]
    simp only [if_neg c]
    by_cases d : t > 1099511627776
    · simp only [if_pos d, Option.bind_some, reduceIte]
    simp only [if_neg d, Option.bind_some, reduceIte]

end Go.Proofs.Ytjkbpcbnfkangaa.Pure
