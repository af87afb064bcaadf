/- A law: sizes, copies, comparisons, marks. Conditions: bounds of lengths. (printed by a program of this session, wip/ak/fr.py) -/
import Derived.Test.YtakeenidhkhmiaaUPlanSend3
import Derived.Test.YtakeenidhkhmiaaAk2
set_option linter.unusedSimpArgs false
set_option linter.unusedVariables false
namespace Go.AK
open Go
theorem eqInt64S_loop (l s : List Int) (hl : l.length < 4611686018427387904) : ∀ i : Int, 0 ≤ i → l.drop i.toNat = s → laws_eqInt64S.l0 l l i = some (.a ()) := by
  induction s with
  | nil => intro i h0 hd; rw [laws_eqInt64S.l0, if_neg (suf_nil h0 hd)]
  | cons e t ih =>
    intro i h0 hd
    obtain ⟨q1, q2, q3⟩ := suf_cons h0 hd 0
    rw [laws_eqInt64S.l0, if_pos q1, if_pos ⟨h0, q1⟩, if_pos ⟨h0, q1⟩, if_neg (fun h => h rfl), wi64_in (by omega) (by omega)]
    exact ih (i + 1) (by omega) q3
theorem eqInt64S_is (l : List Int) (hl : l.length < 4611686018427387904) : laws_eqInt64S.f l l = some true := by
  unfold laws_eqInt64S.f
  rw [if_neg (fun h => h rfl), eqInt64S_loop l l hl 0 (by omega) rfl, some_bind]
theorem eqMapping_is (y0 : Int) (y1 : Int) (y2 : Int) (y3 : Int) (y4 : Int) (h : 6 < 4611686018427387904) : laws_eqMapping.f y0 y1 y2 y3 y4 y0 y1 y2 y3 y4 = some true := by
  unfold laws_eqMapping.f
  simp []
def w84 (x : S84) : Nat := 6
def wS84 : List S84 → Nat
  | [] => 0
  | x :: t => w84 x + wS84 t
theorem wS84_len (l : List S84) : l.length ≤ wS84 l := by
  induction l with
  | nil => exact Nat.le_refl _
  | cons x t ih => rw [List.length_cons]; unfold wS84; unfold w84; omega
theorem wS84_mem {l : List S84} {x : S84} (h : x ∈ l) : w84 x ≤ wS84 l := by
  induction l with
  | nil => cases h
  | cons y t ih =>
    unfold wS84
    rcases List.mem_cons.1 h with rfl | h
    · omega
    · have := ih h; omega
theorem eqMappingS_loop (l s : List S84) (hl : wS84 l < 4611686018427387904) (hm : ∀ x ∈ s, x ∈ l) : ∀ i : Int, 0 ≤ i → l.drop i.toNat = s → laws_eqMappingS.l0 l l i = some (.a ()) := by
  induction s with
  | nil => intro i h0 hd; rw [laws_eqMappingS.l0, if_neg (suf_nil h0 hd)]
  | cons e t ih =>
    intro i h0 hd
    have h9 := wS84_len l
    obtain ⟨q1, q2, q3⟩ := suf_cons h0 hd z84
    rw [laws_eqMappingS.l0, if_pos q1, if_pos ⟨h0, q1⟩, if_pos ⟨h0, q1⟩, q2, eqMapping_is e.f0 e.f1 e.f2 e.f3 e.f4 (by have h7 := wS84_mem (hm e (by simp)); unfold w84 at h7; omega), some_bind, if_neg (by decide), wi64_in (by omega) (by omega)]
    exact ih (fun x hx => hm x (by simp [hx])) (i + 1) (by omega) q3
theorem eqMappingS_is (l : List S84) (hl : wS84 l < 4611686018427387904) : laws_eqMappingS.f l l = some true := by
  unfold laws_eqMappingS.f
  rw [if_neg (fun h => h rfl), eqMappingS_loop l l hl (fun _ h => h) 0 (by omega) rfl, some_bind]
theorem eqPathView_is (y0 : Int) (y1 : Int) (y2 : Int) (h : 4 < 4611686018427387904) : laws_eqPathView.f y0 y1 y2 y0 y1 y2 = some true := by
  unfold laws_eqPathView.f
  simp []
def w86 (x : S86) : Nat := 4
def wS86 : List S86 → Nat
  | [] => 0
  | x :: t => w86 x + wS86 t
theorem wS86_len (l : List S86) : l.length ≤ wS86 l := by
  induction l with
  | nil => exact Nat.le_refl _
  | cons x t ih => rw [List.length_cons]; unfold wS86; unfold w86; omega
theorem wS86_mem {l : List S86} {x : S86} (h : x ∈ l) : w86 x ≤ wS86 l := by
  induction l with
  | nil => cases h
  | cons y t ih =>
    unfold wS86
    rcases List.mem_cons.1 h with rfl | h
    · omega
    · have := ih h; omega
theorem eqPathViewS_loop (l s : List S86) (hl : wS86 l < 4611686018427387904) (hm : ∀ x ∈ s, x ∈ l) : ∀ i : Int, 0 ≤ i → l.drop i.toNat = s → laws_eqPathViewS.l0 l l i = some (.a ()) := by
  induction s with
  | nil => intro i h0 hd; rw [laws_eqPathViewS.l0, if_neg (suf_nil h0 hd)]
  | cons e t ih =>
    intro i h0 hd
    have h9 := wS86_len l
    obtain ⟨q1, q2, q3⟩ := suf_cons h0 hd z86
    rw [laws_eqPathViewS.l0, if_pos q1, if_pos ⟨h0, q1⟩, if_pos ⟨h0, q1⟩, q2, eqPathView_is e.f0 e.f1 e.f2 (by have h7 := wS86_mem (hm e (by simp)); unfold w86 at h7; omega), some_bind, if_neg (by decide), wi64_in (by omega) (by omega)]
    exact ih (fun x hx => hm x (by simp [hx])) (i + 1) (by omega) q3
theorem eqPathViewS_is (l : List S86) (hl : wS86 l < 4611686018427387904) : laws_eqPathViewS.f l l = some true := by
  unfold laws_eqPathViewS.f
  rw [if_neg (fun h => h rfl), eqPathViewS_loop l l hl (fun _ h => h) 0 (by omega) rfl, some_bind]
theorem eqPlan_is (y0 : Int) (y1 : Int) (y2 : Int) (y3 : Int) (y4 : (List Int)) (y5 : Int) (y6 : Int) (h : 7 + y4.length < 4611686018427387904) : laws_eqPlan.f y0 y1 y2 y3 y4 y5 y6 y0 y1 y2 y3 y4 y5 y6 = some true := by
  unfold laws_eqPlan.f
  simp [eqInt64S_is y4 (by omega)]
theorem eqSchedInput_is (y0 : Int) (y1 : Int) (y2 : (List Int)) (y3 : (List S86)) (y4 : (List S84)) (y5 : Int) (y6 : Int) (y7 : Int) (y8 : Int) (y9 : Int) (y10 : Int) (y11 : Int) (h : 10 + y2.length + wS86 y3 + wS84 y4 < 4611686018427387904) : laws_eqSchedInput.f y0 y1 y2 y3 y4 y5 y6 y7 y8 y9 y10 y11 y0 y1 y2 y3 y4 y5 y6 y7 y8 y9 y10 y11 = some true := by
  unfold laws_eqSchedInput.f
  simp [eqInt64S_is y2 (by omega), eqPathViewS_is y3 (by omega), eqMappingS_is y4 (by omega)]
theorem mhInt64S_loop (s : List Int) : ∀ a : Int, 0 ≤ a → a + s.length < 4611686018427387904 → ∃ (k : Int) (s' : List Int), s'.length = s.length ∧ a ≤ k ∧ k ≤ a + s.length ∧ (∀ (i : Int) (p : List Int), (p.length : Int) = i → i + s.length < 4611686018427387904 → laws_markInt64S.l0 a i (p ++ s) = some (k, p ++ s')) ∧ (∀ (i : Int) (p : List Int), (p.length : Int) = i → i + s.length < 4611686018427387904 → laws_heldInt64S.l0 (p ++ s') a i = some (.a k)) := by
  induction s with
  | nil => intro a h0 h1; exact ⟨a, [], rfl, by omega, by simp, fun i p hp _ => by rw [laws_markInt64S.l0, if_neg (nlt_app hp)], fun i p hp _ => by rw [laws_heldInt64S.l0, if_neg (nlt_app hp)]⟩
  | cons x t ih =>
    intro a h0 h1
    rw [List.length_cons] at h1
    have w1 : IntKind.i64.wrap (a + 1) = a + 1 := wi64_in (by omega) (by omega)
    obtain ⟨k, s', g1, g2, g3, g4, g5⟩ := ih (a + 1) (by omega) (by omega)
    refine ⟨k, a :: s', by simp [g1], by omega, by rw [List.length_cons]; omega, fun i p hp hb => ?_, fun i p hp hb => ?_⟩
    · rw [List.length_cons] at hb
      rw [laws_markInt64S.l0, if_pos (lt_app hp).2, if_pos (lt_app hp)]
      have wi : IntKind.i64.wrap (i + 1) = i + 1 := wi64_in (by omega) (by omega)
      simp only [w1, some_bind]
      rw [set_app hp, wi, g4 (i + 1) _ (len_snoc hp) (by omega)]; simp
    · rw [List.length_cons] at hb
      rw [laws_heldInt64S.l0, if_pos (lt_app hp).2, if_pos (lt_app hp), rd_app hp]
      have wi : IntKind.i64.wrap (i + 1) = i + 1 := wi64_in (by omega) (by omega)
      simp only [w1, some_bind, ne_eq, not_true_eq_false, if_false]
      rw [wi, show p ++ a :: s' = (p ++ [a]) ++ s' by simp, g5 (i + 1) _ (len_snoc hp) (by omega)]
theorem mhInt64S (l : List Int) (a : Int) (h0 : 0 ≤ a) (h1 : a + l.length < 4611686018427387904) : ∃ (k : Int) (l' : List Int), l'.length = l.length ∧ a ≤ k ∧ k ≤ a + l.length ∧ laws_markInt64S.f l a = some (k, l') ∧ laws_heldInt64S.f l' a = some k := by
  obtain ⟨k, s', g1, g2, g3, g4, g5⟩ := mhInt64S_loop l a h0 h1
  have e1 := g4 0 [] rfl (by omega)
  rw [List.nil_append, List.nil_append] at e1
  have e2 := g5 0 [] rfl (by omega)
  rw [List.nil_append] at e2
  refine ⟨k, s', g1, g2, g3, ?_, ?_⟩
  · unfold laws_markInt64S.f; rw [e1, some_bind]
  · unfold laws_heldInt64S.f; rw [e2, some_bind]
theorem mhMappingS_loop (s : List S84) : ∀ a : Int, 0 ≤ a → a + wS84 s < 4611686018427387904 → ∃ (k : Int) (s' : List S84), s'.length = s.length ∧ a ≤ k ∧ k ≤ a + wS84 s ∧ (∀ (i : Int) (p : List S84), (p.length : Int) = i → i + s.length < 4611686018427387904 → laws_markMappingS.l0 a i (p ++ s) = some (k, p ++ s')) := by
  induction s with
  | nil => intro a h0 h1; exact ⟨a, [], rfl, by omega, by simp [wS84], fun i p hp _ => by rw [laws_markMappingS.l0, if_neg (nlt_app hp)]⟩
  | cons x t ih =>
    intro a h0 h1
    have hw : wS84 (x :: t) = w84 x + wS84 t := rfl
    rw [hw] at h1
    have hx : w84 x = 6 := rfl
    have w1 : IntKind.i64.wrap (a + 1) = a + 1 := wi64_in (by omega) (by omega)
    have w2 : IntKind.i64.wrap (a + 1 + 1) = a + 1 + 1 := wi64_in (by omega) (by omega)
    have w3 : IntKind.i64.wrap (a + 1 + 1 + 1) = a + 1 + 1 + 1 := wi64_in (by omega) (by omega)
    have w4 : IntKind.i64.wrap (a + 1 + 1 + 1 + 1) = a + 1 + 1 + 1 + 1 := wi64_in (by omega) (by omega)
    have w5 : IntKind.i64.wrap (a + 1 + 1 + 1 + 1 + 1) = a + 1 + 1 + 1 + 1 + 1 := wi64_in (by omega) (by omega)
    obtain ⟨k, s', g1, g2, g3, g4⟩ := ih (a + 1 + 1 + 1 + 1 + 1) (by omega) (by omega)
    refine ⟨k, (⟨IntKind.u64.wrap a, a + 1, a + 1 + 1, a + 1 + 1 + 1, a + 1 + 1 + 1 + 1⟩ : S84) :: s', by simp [g1], by omega, by rw [hw]; omega, fun i p hp hb => ?_⟩
    · rw [List.length_cons] at hb
      rw [laws_markMappingS.l0, if_pos (lt_app hp).2, if_pos (lt_app hp)]
      have wi : IntKind.i64.wrap (i + 1) = i + 1 := wi64_in (by omega) (by omega)
      simp only [w1, w2, w3, w4, w5, some_bind]
      rw [set_app hp, wi, g4 (i + 1) _ (len_snoc hp) (by omega)]; simp
theorem mhMappingS (l : List S84) (a : Int) (h0 : 0 ≤ a) (h1 : a + wS84 l < 4611686018427387904) : ∃ (k : Int) (l' : List S84), l'.length = l.length ∧ a ≤ k ∧ k ≤ a + wS84 l ∧ laws_markMappingS.f l a = some (k, l') := by
  obtain ⟨k, s', g1, g2, g3, g4⟩ := mhMappingS_loop l a h0 h1
  have h9 := wS84_len l
  have e1 := g4 0 [] rfl (by omega)
  rw [List.nil_append, List.nil_append] at e1
  refine ⟨k, s', g1, g2, g3, ?_⟩
  · unfold laws_markMappingS.f; rw [e1, some_bind]
theorem mhPathViewS_loop (s : List S86) : ∀ a : Int, 0 ≤ a → a + wS86 s < 4611686018427387904 → ∃ (k : Int) (s' : List S86), s'.length = s.length ∧ a ≤ k ∧ k ≤ a + wS86 s ∧ (∀ (i : Int) (p : List S86), (p.length : Int) = i → i + s.length < 4611686018427387904 → laws_markPathViewS.l0 a i (p ++ s) = some (k, p ++ s')) := by
  induction s with
  | nil => intro a h0 h1; exact ⟨a, [], rfl, by omega, by simp [wS86], fun i p hp _ => by rw [laws_markPathViewS.l0, if_neg (nlt_app hp)]⟩
  | cons x t ih =>
    intro a h0 h1
    have hw : wS86 (x :: t) = w86 x + wS86 t := rfl
    rw [hw] at h1
    have hx : w86 x = 4 := rfl
    have w1 : IntKind.i64.wrap (a + 1) = a + 1 := wi64_in (by omega) (by omega)
    have w2 : IntKind.i64.wrap (a + 1 + 1) = a + 1 + 1 := wi64_in (by omega) (by omega)
    have w3 : IntKind.i64.wrap (a + 1 + 1 + 1) = a + 1 + 1 + 1 := wi64_in (by omega) (by omega)
    obtain ⟨k, s', g1, g2, g3, g4⟩ := ih (a + 1 + 1 + 1) (by omega) (by omega)
    refine ⟨k, (⟨a, a + 1, a + 1 + 1⟩ : S86) :: s', by simp [g1], by omega, by rw [hw]; omega, fun i p hp hb => ?_⟩
    · rw [List.length_cons] at hb
      rw [laws_markPathViewS.l0, if_pos (lt_app hp).2, if_pos (lt_app hp)]
      have wi : IntKind.i64.wrap (i + 1) = i + 1 := wi64_in (by omega) (by omega)
      simp only [w1, w2, w3, some_bind]
      rw [set_app hp, wi, g4 (i + 1) _ (len_snoc hp) (by omega)]; simp
theorem mhPathViewS (l : List S86) (a : Int) (h0 : 0 ≤ a) (h1 : a + wS86 l < 4611686018427387904) : ∃ (k : Int) (l' : List S86), l'.length = l.length ∧ a ≤ k ∧ k ≤ a + wS86 l ∧ laws_markPathViewS.f l a = some (k, l') := by
  obtain ⟨k, s', g1, g2, g3, g4⟩ := mhPathViewS_loop l a h0 h1
  have h9 := wS86_len l
  have e1 := g4 0 [] rfl (by omega)
  rw [List.nil_append, List.nil_append] at e1
  refine ⟨k, s', g1, g2, g3, ?_⟩
  · unfold laws_markPathViewS.f; rw [e1, some_bind]
theorem szInt64S_is (l : List Int) (a : Int) (ha : 0 ≤ a ∧ a ≤ 1048576) (hl : l.length < 9223372036854775808) : ∃ r, laws_szInt64S.f l a = some r ∧ (r < 0 ∨ (0 ≤ r ∧ r = a - l.length)) := by
  unfold laws_szInt64S.f
  rw [wi64_in (by omega) (by omega)]
  by_cases c : a - (l.length : Int) < 0
  · rw [if_pos c]; exact ⟨_, rfl, .inl (by omega)⟩
  · rw [if_neg c]; exact ⟨_, rfl, .inr (by omega)⟩
theorem szMappingS_is (l : List S109) (a : Int) (ha : 0 ≤ a ∧ a ≤ 1048576) (hl : l.length < 9223372036854775808) : ∃ r, laws_szMappingS.f l a = some r ∧ (r < 0 ∨ (0 ≤ r ∧ r = a - l.length)) := by
  unfold laws_szMappingS.f
  rw [wi64_in (by omega) (by omega)]
  by_cases c : a - (l.length : Int) < 0
  · rw [if_pos c]; exact ⟨_, rfl, .inl (by omega)⟩
  · rw [if_neg c]; exact ⟨_, rfl, .inr (by omega)⟩
theorem szPathViewS_is (l : List S117) (a : Int) (ha : 0 ≤ a ∧ a ≤ 1048576) (hl : l.length < 9223372036854775808) : ∃ r, laws_szPathViewS.f l a = some r ∧ (r < 0 ∨ (0 ≤ r ∧ r = a - l.length)) := by
  unfold laws_szPathViewS.f
  rw [wi64_in (by omega) (by omega)]
  by_cases c : a - (l.length : Int) < 0
  · rw [if_pos c]; exact ⟨_, rfl, .inl (by omega)⟩
  · rw [if_neg c]; exact ⟨_, rfl, .inr (by omega)⟩
theorem szSchedInput_is (y0 : Int) (y1 : Int) (y2 : (List Int)) (y3 : (List S117)) (y4 : (List S109)) (y5 : Int) (y6 : Int) (y7 : Int) (y8 : Int) (y9 : Int) (y10 : Int) (y11 : Int) (a : Int) (ha : 0 ≤ a ∧ a ≤ 1048576) (hl : (y2.length < 9223372036854775808) ∧ (y3.length < 9223372036854775808) ∧ (y4.length < 9223372036854775808)) : ∃ r, laws_szSchedInput.f y0 y1 y2 y3 y4 y5 y6 y7 y8 y9 y10 y11 a = some r ∧ (r < 0 ∨ (0 ≤ r ∧ r = a - (y2.length + y3.length + y4.length : Nat))) := by
  unfold laws_szSchedInput.f
  obtain ⟨r0, e0, c0⟩ := szInt64S_is y2 a (by omega) hl.1
  rw [e0, some_bind]
  by_cases d0 : r0 < 0
  · rw [if_pos d0]; exact ⟨_, rfl, .inl (by omega)⟩
  rw [if_neg d0]
  obtain ⟨r1, e1, c1⟩ := szPathViewS_is y3 r0 (by omega) hl.2.1
  rw [e1, some_bind]
  by_cases d1 : r1 < 0
  · rw [if_pos d1]; exact ⟨_, rfl, .inl (by omega)⟩
  rw [if_neg d1]
  obtain ⟨r2, e2, c2⟩ := szMappingS_is y4 r1 (by omega) hl.2.2
  rw [e2, some_bind]
  by_cases d2 : r2 < 0
  · rw [if_pos d2]; exact ⟨_, rfl, .inl (by omega)⟩
  rw [if_neg d2]
  exact ⟨_, rfl, .inr (by omega)⟩
theorem toInt64S_loop (l s : List Int) (hl : l.length ≤ 1048576) : ∀ (i : Int) (p : List Int), 0 ≤ i → (p.length : Int) = i → l.drop i.toNat = s → i ≤ l.length → laws_toInt64S.l0 l i (p ++ List.replicate s.length 0) = some (p ++ s) := by
  induction s with
  | nil => intro i p h0 hp hd h1; rw [laws_toInt64S.l0, if_neg (suf_nil h0 hd)]; simp
  | cons e t ih =>
    intro i p h0 hp hd h1
    obtain ⟨q1, q2, q3⟩ := suf_cons h0 hd 0
    rw [List.length_cons, List.replicate_succ, laws_toInt64S.l0, if_pos q1, if_pos ⟨h0, q1⟩]
    rw [if_pos (lt_app hp), q2, set_app hp, wi64_in (by omega) (by omega)]
    refine (ih (i + 1) (p ++ [e]) (by omega) (len_snoc hp) q3 (by omega)).trans ?_
    simp
theorem toInt64S_is (l : List Int) (hl : l.length ≤ 1048576) : laws_toInt64S.f l = some l := by
  unfold laws_toInt64S.f
  rw [if_pos (by omega), show (l.length : Int).toNat = l.length by omega]
  have := toInt64S_loop l l (by omega) 0 [] (by omega) rfl rfl (by omega)
  rw [List.nil_append, List.nil_append] at this
  rw [this, some_bind]
def cv109 (x : S109) : S84 := ⟨x.f0, x.f1, x.f2, x.f3, x.f4⟩
theorem toMappingS_loop (l s : List S109) (hl : l.length ≤ 1048576) : ∀ (i : Int) (p : List S84), 0 ≤ i → (p.length : Int) = i → l.drop i.toNat = s → i ≤ l.length → laws_toMappingS.l0 l i (p ++ List.replicate s.length z84) = some (p ++ (s.map cv109)) := by
  induction s with
  | nil => intro i p h0 hp hd h1; rw [laws_toMappingS.l0, if_neg (suf_nil h0 hd)]; simp
  | cons e t ih =>
    intro i p h0 hp hd h1
    obtain ⟨q1, q2, q3⟩ := suf_cons h0 hd z109
    rw [List.length_cons, List.replicate_succ, laws_toMappingS.l0, if_pos q1, if_pos ⟨h0, q1⟩, q2]
    simp only [laws_toMapping.f, some_bind]
    rw [if_pos (lt_app hp), set_app hp, wi64_in (by omega) (by omega)]
    refine (ih (i + 1) (p ++ [(cv109 e)]) (by omega) (len_snoc hp) q3 (by omega)).trans ?_
    simp
theorem toMappingS_is (l : List S109) (hl : l.length ≤ 1048576) : laws_toMappingS.f l = some (l.map cv109) := by
  unfold laws_toMappingS.f
  rw [if_pos (by omega), show (l.length : Int).toNat = l.length by omega]
  have := toMappingS_loop l l (by omega) 0 [] (by omega) rfl rfl (by omega)
  rw [List.nil_append, List.nil_append] at this
  rw [this, some_bind]
def cv117 (x : S117) : S86 := ⟨x.f0, x.f1, x.f2⟩
theorem toPathViewS_loop (l s : List S117) (hl : l.length ≤ 1048576) : ∀ (i : Int) (p : List S86), 0 ≤ i → (p.length : Int) = i → l.drop i.toNat = s → i ≤ l.length → laws_toPathViewS.l0 l i (p ++ List.replicate s.length z86) = some (p ++ (s.map cv117)) := by
  induction s with
  | nil => intro i p h0 hp hd h1; rw [laws_toPathViewS.l0, if_neg (suf_nil h0 hd)]; simp
  | cons e t ih =>
    intro i p h0 hp hd h1
    obtain ⟨q1, q2, q3⟩ := suf_cons h0 hd z117
    rw [List.length_cons, List.replicate_succ, laws_toPathViewS.l0, if_pos q1, if_pos ⟨h0, q1⟩, q2]
    simp only [laws_toPathView.f, some_bind]
    rw [if_pos (lt_app hp), set_app hp, wi64_in (by omega) (by omega)]
    refine (ih (i + 1) (p ++ [(cv117 e)]) (by omega) (len_snoc hp) q3 (by omega)).trans ?_
    simp
theorem toPathViewS_is (l : List S117) (hl : l.length ≤ 1048576) : laws_toPathViewS.f l = some (l.map cv117) := by
  unfold laws_toPathViewS.f
  rw [if_pos (by omega), show (l.length : Int).toNat = l.length by omega]
  have := toPathViewS_loop l l (by omega) 0 [] (by omega) rfl rfl (by omega)
  rw [List.nil_append, List.nil_append] at this
  rw [this, some_bind]
end Go.AK
