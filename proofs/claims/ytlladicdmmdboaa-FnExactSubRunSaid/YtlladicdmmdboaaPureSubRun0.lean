/- A law: sizes, copies, comparisons, marks. Conditions: bounds of lengths. (printed by a program of this session, wip/ak/fr.py) -/
import Derived.Test.YtlladicdmmdboaaUSubRun3
import Derived.Test.YtlladicdmmdboaaAk2
set_option linter.unusedSimpArgs false
set_option linter.unusedVariables false
namespace Go.AK
open Go
theorem eqInt64S_loop (l s : List Int) (hl : l.length < 4611686018427387904) : ∀ i : Int, 0 ≤ i → l.drop i.toNat = s → laws_eqInt64S.l0 l l i = some (.a ()) := by
  induction s with
  | nil => intro i h0 hd; rw [laws_eqInt64S.l0, if_neg (suf_nil h0 hd)]
  | cons e t ih =>
    intro i h0 hd
    obtain ⟨q1, q2, q3⟩ := suf_cons h0 hd 0
    rw [laws_eqInt64S.l0, if_pos q1, if_pos ⟨h0, q1⟩, if_pos ⟨h0, q1⟩, if_neg (fun h => h rfl), wi64_in (by omega) (by omega)]
    exact ih (i + 1) (by omega) q3
theorem eqInt64S_is (l : List Int) (hl : l.length < 4611686018427387904) : laws_eqInt64S.f l l = some true := by
  unfold laws_eqInt64S.f
  rw [if_neg (fun h => h rfl), eqInt64S_loop l l hl 0 (by omega) rfl, some_bind]
def w63 (x : S63) : Nat := 4
def wS63 : List S63 → Nat
  | [] => 0
  | x :: t => w63 x + wS63 t
theorem wS63_len (l : List S63) : l.length ≤ wS63 l := by
  induction l with
  | nil => exact Nat.le_refl _
  | cons x t ih => rw [List.length_cons]; unfold wS63; unfold w63; omega
theorem wS63_mem {l : List S63} {x : S63} (h : x ∈ l) : w63 x ≤ wS63 l := by
  induction l with
  | nil => cases h
  | cons y t ih =>
    unfold wS63
    rcases List.mem_cons.1 h with rfl | h
    · omega
    · have := ih h; omega
theorem eqSubEvent_is (x : S63) (h : w63 x < 4611686018427387904) : laws_eqSubEvent.f x.f0 x.f1 x.f2 x.f0 x.f1 x.f2 = some true := by
  unfold laws_eqSubEvent.f
  simp []
theorem eqSubEventS_loop (l s : List S63) (hl : wS63 l < 4611686018427387904) (hm : ∀ x ∈ s, x ∈ l) : ∀ i : Int, 0 ≤ i → l.drop i.toNat = s → laws_eqSubEventS.l0 l l i = some (.a ()) := by
  induction s with
  | nil => intro i h0 hd; rw [laws_eqSubEventS.l0, if_neg (suf_nil h0 hd)]
  | cons e t ih =>
    intro i h0 hd
    have h9 := wS63_len l
    obtain ⟨q1, q2, q3⟩ := suf_cons h0 hd z63
    rw [laws_eqSubEventS.l0, if_pos q1, if_pos ⟨h0, q1⟩, if_pos ⟨h0, q1⟩, q2, eqSubEvent_is e (by have := wS63_mem (hm e (by simp)); omega), some_bind, if_neg (by decide), wi64_in (by omega) (by omega)]
    exact ih (fun x hx => hm x (by simp [hx])) (i + 1) (by omega) q3
theorem eqSubEventS_is (l : List S63) (hl : wS63 l < 4611686018427387904) : laws_eqSubEventS.f l l = some true := by
  unfold laws_eqSubEventS.f
  rw [if_neg (fun h => h rfl), eqSubEventS_loop l l hl (fun _ h => h) 0 (by omega) rfl, some_bind]
def w68 (x : S68) : Nat := 4
def wS68 : List S68 → Nat
  | [] => 0
  | x :: t => w68 x + wS68 t
theorem wS68_len (l : List S68) : l.length ≤ wS68 l := by
  induction l with
  | nil => exact Nat.le_refl _
  | cons x t ih => rw [List.length_cons]; unfold wS68; unfold w68; omega
theorem wS68_mem {l : List S68} {x : S68} (h : x ∈ l) : w68 x ≤ wS68 l := by
  induction l with
  | nil => cases h
  | cons y t ih =>
    unfold wS68
    rcases List.mem_cons.1 h with rfl | h
    · omega
    · have := ih h; omega
theorem eqSubFrame_is (x : S68) (h : w68 x < 4611686018427387904) : laws_eqSubFrame.f x.f0 x.f1 x.f2 x.f0 x.f1 x.f2 = some true := by
  unfold laws_eqSubFrame.f
  simp []
theorem eqSubFrameS_loop (l s : List S68) (hl : wS68 l < 4611686018427387904) (hm : ∀ x ∈ s, x ∈ l) : ∀ i : Int, 0 ≤ i → l.drop i.toNat = s → laws_eqSubFrameS.l0 l l i = some (.a ()) := by
  induction s with
  | nil => intro i h0 hd; rw [laws_eqSubFrameS.l0, if_neg (suf_nil h0 hd)]
  | cons e t ih =>
    intro i h0 hd
    have h9 := wS68_len l
    obtain ⟨q1, q2, q3⟩ := suf_cons h0 hd z68
    rw [laws_eqSubFrameS.l0, if_pos q1, if_pos ⟨h0, q1⟩, if_pos ⟨h0, q1⟩, q2, eqSubFrame_is e (by have := wS68_mem (hm e (by simp)); omega), some_bind, if_neg (by decide), wi64_in (by omega) (by omega)]
    exact ih (fun x hx => hm x (by simp [hx])) (i + 1) (by omega) q3
theorem eqSubFrameS_is (l : List S68) (hl : wS68 l < 4611686018427387904) : laws_eqSubFrameS.f l l = some true := by
  unfold laws_eqSubFrameS.f
  rw [if_neg (fun h => h rfl), eqSubFrameS_loop l l hl (fun _ h => h) 0 (by omega) rfl, some_bind]
def w66 (x : S66) : Nat := 4 + wS68 x.f1 + x.f2.length
def wS66 : List S66 → Nat
  | [] => 0
  | x :: t => w66 x + wS66 t
theorem wS66_len (l : List S66) : l.length ≤ wS66 l := by
  induction l with
  | nil => exact Nat.le_refl _
  | cons x t ih => rw [List.length_cons]; unfold wS66; unfold w66; omega
theorem wS66_mem {l : List S66} {x : S66} (h : x ∈ l) : w66 x ≤ wS66 l := by
  induction l with
  | nil => cases h
  | cons y t ih =>
    unfold wS66
    rcases List.mem_cons.1 h with rfl | h
    · omega
    · have := ih h; omega
theorem eqSubOut_is (x : S66) (h : w66 x < 4611686018427387904) : laws_eqSubOut.f x.f0 x.f1 x.f2 x.f3 x.f4 x.f0 x.f1 x.f2 x.f3 x.f4 = some true := by
  unfold laws_eqSubOut.f
  simp [eqSubFrameS_is x.f1 (by unfold w66 at h; omega), eqInt64S_is x.f2 (by unfold w66 at h; omega)]
theorem eqSubOutS_loop (l s : List S66) (hl : wS66 l < 4611686018427387904) (hm : ∀ x ∈ s, x ∈ l) : ∀ i : Int, 0 ≤ i → l.drop i.toNat = s → laws_eqSubOutS.l0 l l i = some (.a ()) := by
  induction s with
  | nil => intro i h0 hd; rw [laws_eqSubOutS.l0, if_neg (suf_nil h0 hd)]
  | cons e t ih =>
    intro i h0 hd
    have h9 := wS66_len l
    obtain ⟨q1, q2, q3⟩ := suf_cons h0 hd z66
    rw [laws_eqSubOutS.l0, if_pos q1, if_pos ⟨h0, q1⟩, if_pos ⟨h0, q1⟩, q2, eqSubOut_is e (by have := wS66_mem (hm e (by simp)); omega), some_bind, if_neg (by decide), wi64_in (by omega) (by omega)]
    exact ih (fun x hx => hm x (by simp [hx])) (i + 1) (by omega) q3
theorem eqSubOutS_is (l : List S66) (hl : wS66 l < 4611686018427387904) : laws_eqSubOutS.f l l = some true := by
  unfold laws_eqSubOutS.f
  rw [if_neg (fun h => h rfl), eqSubOutS_loop l l hl (fun _ h => h) 0 (by omega) rfl, some_bind]
theorem mhInt64S_loop (s : List Int) : ∀ a : Int, 0 ≤ a → a + s.length < 4611686018427387904 → ∃ (k : Int) (s' : List Int), s'.length = s.length ∧ a ≤ k ∧ k ≤ a + s.length ∧ (∀ (i : Int) (p : List Int), (p.length : Int) = i → i + s.length < 4611686018427387904 → laws_markInt64S.l0 a i (p ++ s) = some (k, p ++ s')) ∧ (∀ (i : Int) (p : List Int), (p.length : Int) = i → i + s.length < 4611686018427387904 → laws_heldInt64S.l0 (p ++ s') a i = some (.a k)) := by
  induction s with
  | nil => intro a h0 h1; exact ⟨a, [], rfl, by omega, by simp, fun i p hp _ => by rw [laws_markInt64S.l0, if_neg (nlt_app hp)], fun i p hp _ => by rw [laws_heldInt64S.l0, if_neg (nlt_app hp)]⟩
  | cons x t ih =>
    intro a h0 h1
    rw [List.length_cons] at h1
    have w1 : IntKind.i64.wrap (a + 1) = a + 1 := wi64_in (by omega) (by omega)
    obtain ⟨k, s', g1, g2, g3, g4, g5⟩ := ih (a + 1) (by omega) (by omega)
    refine ⟨k, a :: s', by simp [g1], by omega, by rw [List.length_cons]; omega, fun i p hp hb => ?_, fun i p hp hb => ?_⟩
    · rw [List.length_cons] at hb
      rw [laws_markInt64S.l0, if_pos (lt_app hp).2, if_pos (lt_app hp)]
      have wi : IntKind.i64.wrap (i + 1) = i + 1 := wi64_in (by omega) (by omega)
      simp only [w1, some_bind]
      rw [set_app hp, wi, g4 (i + 1) _ (len_snoc hp) (by omega)]; simp
    · rw [List.length_cons] at hb
      rw [laws_heldInt64S.l0, if_pos (lt_app hp).2, if_pos (lt_app hp), rd_app hp]
      have wi : IntKind.i64.wrap (i + 1) = i + 1 := wi64_in (by omega) (by omega)
      simp only [w1, some_bind, ne_eq, not_true_eq_false, if_false]
      rw [wi, show p ++ a :: s' = (p ++ [a]) ++ s' by simp, g5 (i + 1) _ (len_snoc hp) (by omega)]
theorem mhInt64S (l : List Int) (a : Int) (h0 : 0 ≤ a) (h1 : a + l.length < 4611686018427387904) : ∃ (k : Int) (l' : List Int), l'.length = l.length ∧ a ≤ k ∧ k ≤ a + l.length ∧ laws_markInt64S.f l a = some (k, l') ∧ laws_heldInt64S.f l' a = some k := by
  obtain ⟨k, s', g1, g2, g3, g4, g5⟩ := mhInt64S_loop l a h0 h1
  have e1 := g4 0 [] rfl (by omega)
  rw [List.nil_append, List.nil_append] at e1
  have e2 := g5 0 [] rfl (by omega)
  rw [List.nil_append] at e2
  refine ⟨k, s', g1, g2, g3, ?_, ?_⟩
  · unfold laws_markInt64S.f; rw [e1, some_bind]
  · unfold laws_heldInt64S.f; rw [e2, some_bind]
theorem mhSubEventS_loop (s : List S63) : ∀ a : Int, 0 ≤ a → a + wS63 s < 4611686018427387904 → ∃ (k : Int) (s' : List S63), s'.length = s.length ∧ a ≤ k ∧ k ≤ a + wS63 s ∧ (∀ (i : Int) (p : List S63), (p.length : Int) = i → i + s.length < 4611686018427387904 → laws_markSubEventS.l0 a i (p ++ s) = some (k, p ++ s')) := by
  induction s with
  | nil => intro a h0 h1; exact ⟨a, [], rfl, by omega, by simp [wS63], fun i p hp _ => by rw [laws_markSubEventS.l0, if_neg (nlt_app hp)]⟩
  | cons x t ih =>
    intro a h0 h1
    have hw : wS63 (x :: t) = w63 x + wS63 t := rfl
    rw [hw] at h1
    have hx : w63 x = 4 := rfl
    have w1 : IntKind.i64.wrap (a + 1) = a + 1 := wi64_in (by omega) (by omega)
    have w2 : IntKind.i64.wrap (a + 1 + 1) = a + 1 + 1 := wi64_in (by omega) (by omega)
    have w3 : IntKind.i64.wrap (a + 1 + 1 + 1) = a + 1 + 1 + 1 := wi64_in (by omega) (by omega)
    obtain ⟨k, s', g1, g2, g3, g4⟩ := ih (a + 1 + 1 + 1) (by omega) (by omega)
    refine ⟨k, (⟨a, a + 1, IntKind.u32.wrap (a + 1 + 1)⟩ : S63) :: s', by simp [g1], by omega, by rw [hw]; omega, fun i p hp hb => ?_⟩
    · rw [List.length_cons] at hb
      rw [laws_markSubEventS.l0, if_pos (lt_app hp).2, if_pos (lt_app hp)]
      have wi : IntKind.i64.wrap (i + 1) = i + 1 := wi64_in (by omega) (by omega)
      simp only [w1, w2, w3, some_bind]
      rw [set_app hp, wi, g4 (i + 1) _ (len_snoc hp) (by omega)]; simp
theorem mhSubEventS (l : List S63) (a : Int) (h0 : 0 ≤ a) (h1 : a + wS63 l < 4611686018427387904) : ∃ (k : Int) (l' : List S63), l'.length = l.length ∧ a ≤ k ∧ k ≤ a + wS63 l ∧ laws_markSubEventS.f l a = some (k, l') := by
  obtain ⟨k, s', g1, g2, g3, g4⟩ := mhSubEventS_loop l a h0 h1
  have h9 := wS63_len l
  have e1 := g4 0 [] rfl (by omega)
  rw [List.nil_append, List.nil_append] at e1
  refine ⟨k, s', g1, g2, g3, ?_⟩
  · unfold laws_markSubEventS.f; rw [e1, some_bind]
theorem mhSubFrameS_loop (s : List S68) : ∀ a : Int, 0 ≤ a → a + wS68 s < 4611686018427387904 → ∃ (k : Int) (s' : List S68), s'.length = s.length ∧ a ≤ k ∧ k ≤ a + wS68 s ∧ (∀ (i : Int) (p : List S68), (p.length : Int) = i → i + s.length < 4611686018427387904 → laws_markSubFrameS.l0 a i (p ++ s) = some (k, p ++ s')) ∧ (∀ (i : Int) (p : List S68), (p.length : Int) = i → i + s.length < 4611686018427387904 → laws_heldSubFrameS.l0 (p ++ s') a i = some (.a k)) := by
  induction s with
  | nil => intro a h0 h1; exact ⟨a, [], rfl, by omega, by simp [wS68], fun i p hp _ => by rw [laws_markSubFrameS.l0, if_neg (nlt_app hp)], fun i p hp _ => by rw [laws_heldSubFrameS.l0, if_neg (nlt_app hp)]⟩
  | cons x t ih =>
    intro a h0 h1
    have hw : wS68 (x :: t) = w68 x + wS68 t := rfl
    rw [hw] at h1
    have hx : w68 x = 4 := rfl
    have w1 : IntKind.i64.wrap (a + 1) = a + 1 := wi64_in (by omega) (by omega)
    have w2 : IntKind.i64.wrap (a + 1 + 1) = a + 1 + 1 := wi64_in (by omega) (by omega)
    have w3 : IntKind.i64.wrap (a + 1 + 1 + 1) = a + 1 + 1 + 1 := wi64_in (by omega) (by omega)
    obtain ⟨k, s', g1, g2, g3, g4, g5⟩ := ih (a + 1 + 1 + 1) (by omega) (by omega)
    refine ⟨k, (⟨a, IntKind.u32.wrap (a + 1), a + 1 + 1⟩ : S68) :: s', by simp [g1], by omega, by rw [hw]; omega, fun i p hp hb => ?_, fun i p hp hb => ?_⟩
    · rw [List.length_cons] at hb
      rw [laws_markSubFrameS.l0, if_pos (lt_app hp).2, if_pos (lt_app hp)]
      have wi : IntKind.i64.wrap (i + 1) = i + 1 := wi64_in (by omega) (by omega)
      simp only [w1, w2, w3, some_bind]
      rw [set_app hp, wi, g4 (i + 1) _ (len_snoc hp) (by omega)]; simp
    · rw [List.length_cons] at hb
      rw [laws_heldSubFrameS.l0, if_pos (lt_app hp).2, if_pos (lt_app hp), rd_app hp]
      have wi : IntKind.i64.wrap (i + 1) = i + 1 := wi64_in (by omega) (by omega)
      simp only [w1, w2, w3, some_bind, ne_eq, not_true_eq_false, if_false]
      rw [wi, show p ++ (⟨a, IntKind.u32.wrap (a + 1), a + 1 + 1⟩ : S68) :: s' = (p ++ [(⟨a, IntKind.u32.wrap (a + 1), a + 1 + 1⟩ : S68)]) ++ s' by simp, g5 (i + 1) _ (len_snoc hp) (by omega)]
theorem mhSubFrameS (l : List S68) (a : Int) (h0 : 0 ≤ a) (h1 : a + wS68 l < 4611686018427387904) : ∃ (k : Int) (l' : List S68), l'.length = l.length ∧ a ≤ k ∧ k ≤ a + wS68 l ∧ laws_markSubFrameS.f l a = some (k, l') ∧ laws_heldSubFrameS.f l' a = some k := by
  obtain ⟨k, s', g1, g2, g3, g4, g5⟩ := mhSubFrameS_loop l a h0 h1
  have h9 := wS68_len l
  have e1 := g4 0 [] rfl (by omega)
  rw [List.nil_append, List.nil_append] at e1
  have e2 := g5 0 [] rfl (by omega)
  rw [List.nil_append] at e2
  refine ⟨k, s', g1, g2, g3, ?_, ?_⟩
  · unfold laws_markSubFrameS.f; rw [e1, some_bind]
  · unfold laws_heldSubFrameS.f; rw [e2, some_bind]
theorem mhSubOutS_loop (s : List S66) : ∀ a : Int, 0 ≤ a → a + wS66 s < 4611686018427387904 → ∃ (k : Int) (s' : List S66), s'.length = s.length ∧ a ≤ k ∧ k ≤ a + wS66 s ∧ (∀ (i : Int) (p : List S66), (p.length : Int) = i → i + s.length < 4611686018427387904 → laws_markSubOutS.l0 a i (p ++ s) = some (k, p ++ s')) ∧ (∀ (i : Int) (p : List S66), (p.length : Int) = i → i + s.length < 4611686018427387904 → laws_heldSubOutS.l0 (p ++ s') a i = some (.a k)) := by
  induction s with
  | nil => intro a h0 h1; exact ⟨a, [], rfl, by omega, by simp [wS66], fun i p hp _ => by rw [laws_markSubOutS.l0, if_neg (nlt_app hp)], fun i p hp _ => by rw [laws_heldSubOutS.l0, if_neg (nlt_app hp)]⟩
  | cons x t ih =>
    intro a h0 h1
    have hw : wS66 (x :: t) = w66 x + wS66 t := rfl
    rw [hw] at h1
    have hx : w66 x = 4 + wS68 x.f1 + x.f2.length := rfl
    have w1 : IntKind.i64.wrap (a + 1) = a + 1 := wi64_in (by omega) (by omega)
    obtain ⟨k1, y1, u1, a1, b1, m1, q1⟩ := mhSubFrameS x.f1 (a + 1) (by omega) (by omega)
    have n1 : (k1 < 0) = False := by simp; omega
    obtain ⟨k2, y2, u2, a2, b2, m2, q2⟩ := mhInt64S x.f2 (k1) (by omega) (by omega)
    have n2 : (k2 < 0) = False := by simp; omega
    have w2 : IntKind.i64.wrap (k2 + 1) = k2 + 1 := wi64_in (by omega) (by omega)
    have w3 : IntKind.i64.wrap (k2 + 1 + 1) = k2 + 1 + 1 := wi64_in (by omega) (by omega)
    obtain ⟨k, s', g1, g2, g3, g4, g5⟩ := ih (k2 + 1 + 1) (by omega) (by omega)
    refine ⟨k, (⟨a, y1, y2, k2, k2 + 1⟩ : S66) :: s', by simp [g1], by omega, by rw [hw]; omega, fun i p hp hb => ?_, fun i p hp hb => ?_⟩
    · rw [List.length_cons] at hb
      rw [laws_markSubOutS.l0, if_pos (lt_app hp).2, if_pos (lt_app hp), rd_app hp]
      have wi : IntKind.i64.wrap (i + 1) = i + 1 := wi64_in (by omega) (by omega)
      simp only [w1, w2, w3, m1, m2, some_bind]
      rw [set_app hp, wi, g4 (i + 1) _ (len_snoc hp) (by omega)]; simp
    · rw [List.length_cons] at hb
      rw [laws_heldSubOutS.l0, if_pos (lt_app hp).2, if_pos (lt_app hp), rd_app hp]
      have wi : IntKind.i64.wrap (i + 1) = i + 1 := wi64_in (by omega) (by omega)
      simp only [w1, w2, w3, q1, n1, q2, n2, some_bind, ne_eq, not_true_eq_false, if_false]
      rw [wi, show p ++ (⟨a, y1, y2, k2, k2 + 1⟩ : S66) :: s' = (p ++ [(⟨a, y1, y2, k2, k2 + 1⟩ : S66)]) ++ s' by simp, g5 (i + 1) _ (len_snoc hp) (by omega)]
theorem mhSubOutS (l : List S66) (a : Int) (h0 : 0 ≤ a) (h1 : a + wS66 l < 4611686018427387904) : ∃ (k : Int) (l' : List S66), l'.length = l.length ∧ a ≤ k ∧ k ≤ a + wS66 l ∧ laws_markSubOutS.f l a = some (k, l') ∧ laws_heldSubOutS.f l' a = some k := by
  obtain ⟨k, s', g1, g2, g3, g4, g5⟩ := mhSubOutS_loop l a h0 h1
  have h9 := wS66_len l
  have e1 := g4 0 [] rfl (by omega)
  rw [List.nil_append, List.nil_append] at e1
  have e2 := g5 0 [] rfl (by omega)
  rw [List.nil_append] at e2
  refine ⟨k, s', g1, g2, g3, ?_, ?_⟩
  · unfold laws_markSubOutS.f; rw [e1, some_bind]
  · unfold laws_heldSubOutS.f; rw [e2, some_bind]
theorem szSubEventS_is (l : List S164) (a : Int) (ha : 0 ≤ a ∧ a ≤ 1048576) (hl : l.length < 4611686018427387904) : ∃ r, laws_szSubEventS.f l a = some r ∧ (r < 0 ∨ (0 ≤ r ∧ r = a - l.length)) := by
  unfold laws_szSubEventS.f
  rw [wi64_in (by omega) (by omega)]
  by_cases c : a - (l.length : Int) < 0
  · rw [if_pos c]; exact ⟨_, rfl, .inl (by omega)⟩
  · rw [if_neg c]; exact ⟨_, rfl, .inr (by omega)⟩
def cv164 (x : S164) : S63 := ⟨x.f0, x.f1, x.f2⟩
theorem toSubEventS_loop (l s : List S164) (hl : l.length ≤ 1048576) : ∀ (i : Int) (p : List S63), 0 ≤ i → (p.length : Int) = i → l.drop i.toNat = s → i ≤ l.length → laws_toSubEventS.l0 l i (p ++ List.replicate s.length z63) = some (p ++ (s.map cv164)) := by
  induction s with
  | nil => intro i p h0 hp hd h1; rw [laws_toSubEventS.l0, if_neg (suf_nil h0 hd)]; simp
  | cons e t ih =>
    intro i p h0 hp hd h1
    obtain ⟨q1, q2, q3⟩ := suf_cons h0 hd z164
    rw [List.length_cons, List.replicate_succ, laws_toSubEventS.l0, if_pos q1, if_pos ⟨h0, q1⟩, q2]
    simp only [laws_toSubEvent.f, some_bind]
    rw [if_pos (lt_app hp), set_app hp, wi64_in (by omega) (by omega)]
    refine (ih (i + 1) (p ++ [(cv164 e)]) (by omega) (len_snoc hp) q3 (by omega)).trans ?_
    simp
theorem toSubEventS_is (l : List S164) (hl : l.length ≤ 1048576) : laws_toSubEventS.f l = some (l.map cv164) := by
  unfold laws_toSubEventS.f
  rw [if_pos (by omega), show (l.length : Int).toNat = l.length by omega]
  have := toSubEventS_loop l l (by omega) 0 [] (by omega) rfl rfl (by omega)
  rw [List.nil_append, List.nil_append] at this
  rw [this, some_bind]
end Go.AK
