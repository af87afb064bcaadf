/- The law FnExactSubRun answers true for all of its arguments. Conditions: the kinds of the arguments. -/
import Derived.Test.YtlladicdmmdboaaPureSubRun2
set_option linter.unusedSimpArgs false
set_option linter.unusedVariables false
namespace Go.AK
open Go
theorem wS66_le (l : List S66) (h : ∀ x ∈ l, SubOk x) : wS66 l ≤ l.length * 84 := by
  induction l with
  | nil => simp [wS66]
  | cons x t ih =>
    have h1 := h x (by simp)
    have h2 := ih fun y hy => h y (by simp [hy])
    have h3 : ∀ l : List S68, wS68 l ≤ l.length * 4 := fun l => by
      induction l with
      | nil => simp [wS68]
      | cons y t ih => unfold wS68 w68; rw [List.length_cons]; omega
    have := h3 x.f1
    unfold SubOk at h1
    unfold wS66 w66; rw [List.length_cons]; omega
theorem wS63_le (l : List S63) : wS63 l ≤ l.length * 4 := by
  induction l with
  | nil => simp [wS63]
  | cons y t ih => unfold wS63 w63; rw [List.length_cons]; omega
theorem FnExactSubRun_pure (I W R MR DA PE : Int) (l : List S164) (h0 : ((Lit.int .u32 I).wf = true) ∧ ((Lit.int .i64 W).wf = true) ∧ ((Lit.int .i64 R).wf = true) ∧ ((Lit.int .i64 MR).wf = true) ∧ ((Lit.int .i64 DA).wf = true) ∧ ((Lit.int .i64 PE).wf = true)) (hl : l.length ≤ maxLen)
    (hs : ∀ y ∈ l, ((Lit.int .i64 y.f0).wf = true) ∧ ((Lit.int .i64 y.f1).wf = true) ∧ ((Lit.int .u32 y.f2).wf = true)) : laws_FnExactSubRun.f I W R MR DA PE l = some true := by
  have hI : 0 ≤ I ∧ I ≤ 4294967295 := by simpa [Lit.wf, IntKind.signed, IntKind.bits, IntKind.min, IntKind.max] using h0.1
  have hM : maxLen = 9223372036854775807 := rfl
  by_cases hb : ¬ l.length < 4611686018427387904
  · unfold laws_FnExactSubRun.f laws_szSubEventS.f
    rw [wi64_in (by omega) (by omega), if_pos (by omega), some_bind, if_pos (by omega)]
  obtain ⟨r, e1, e2⟩ := szSubEventS_is l 1048576 (by omega) (by omega)
  unfold laws_FnExactSubRun.f
  rw [e1, some_bind]
  by_cases k : r < 0
  · rw [if_pos k]
  have hlen : (l.map cv164).length ≤ 1048576 := by rw [List.length_map]; omega
  have hok : ∀ x ∈ l.map cv164, 0 ≤ x.f2 ∧ x.f2 < 4294967296 := fun x hx => by
    obtain ⟨y, hy, rfl⟩ := List.mem_map.1 hx
    have : 0 ≤ y.f2 ∧ y.f2 ≤ 4294967295 := by simpa [Lit.wf, IntKind.signed, IntKind.bits, IntKind.min, IntKind.max] using (hs y hy).2.2
    show 0 ≤ y.f2 ∧ y.f2 < 4294967296; omega
  rw [if_neg k, show laws_toSubConfig.f I W R MR DA PE = some (I, W, R, MR, DA, PE) from rfl, some_bind, toSubEventS_is l (by omega), some_bind]
  generalize l.map cv164 = L at hok hlen
  obtain ⟨outs, code, r1, r2, r3, r4⟩ := sub_both I W R MR DA PE (by omega) L hok
  have hw := wS66_le outs r4
  have hw2 := wS63_le L
  have hE := eqSubOutS_is outs (by omega)
  have hEv := eqSubEventS_is L (by omega)
  obtain ⟨k1, l1, g1, g2, g3, g4⟩ := mhSubEventS L 1 (by omega) (by omega)
  obtain ⟨k2, l2, f1, f2, f3, f4, f5⟩ := mhSubOutS outs 1 (by omega) (by omega)
  have n1 : (k1 < 0) = False := by simp; omega
  have n2 : (k2 < 0) = False := by simp; omega
  simp [r1, r2, hE, hEv, g4, f4, f5, n1, n2]
end Go.AK
