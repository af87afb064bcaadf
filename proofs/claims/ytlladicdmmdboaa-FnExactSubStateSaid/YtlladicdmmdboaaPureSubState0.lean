/- A law: sizes, copies, comparisons, marks. Conditions: bounds of lengths. (printed by a program of this session, wip/ak/fr.py) -/
import Derived.Test.YtlladicdmmdboaaUSubState3
import Derived.Test.YtlladicdmmdboaaAk2
set_option linter.unusedSimpArgs false
set_option linter.unusedVariables false
namespace Go.AK
open Go
theorem eqInt64S_loop (l s : List Int) (hl : l.length < 4611686018427387904) : ∀ i : Int, 0 ≤ i → l.drop i.toNat = s → laws_eqInt64S.l0 l l i = some (.a ()) := by
  induction s with
  | nil => intro i h0 hd; rw [laws_eqInt64S.l0, if_neg (suf_nil h0 hd)]
  | cons e t ih =>
    intro i h0 hd
    obtain ⟨q1, q2, q3⟩ := suf_cons h0 hd 0
    rw [laws_eqInt64S.l0, if_pos q1, if_pos ⟨h0, q1⟩, if_pos ⟨h0, q1⟩, if_neg (fun h => h rfl), wi64_in (by omega) (by omega)]
    exact ih (i + 1) (by omega) q3
theorem eqInt64S_is (l : List Int) (hl : l.length < 4611686018427387904) : laws_eqInt64S.f l l = some true := by
  unfold laws_eqInt64S.f
  rw [if_neg (fun h => h rfl), eqInt64S_loop l l hl 0 (by omega) rfl, some_bind]
theorem eqSubEvent_is (y0 : Int) (y1 : Int) (y2 : Int) (h : 4 < 4611686018427387904) : laws_eqSubEvent.f y0 y1 y2 y0 y1 y2 = some true := by
  unfold laws_eqSubEvent.f
  simp []
def w63 (x : S63) : Nat := 4
def wS63 : List S63 → Nat
  | [] => 0
  | x :: t => w63 x + wS63 t
theorem wS63_len (l : List S63) : l.length ≤ wS63 l := by
  induction l with
  | nil => exact Nat.le_refl _
  | cons x t ih => rw [List.length_cons]; unfold wS63; unfold w63; omega
theorem wS63_mem {l : List S63} {x : S63} (h : x ∈ l) : w63 x ≤ wS63 l := by
  induction l with
  | nil => cases h
  | cons y t ih =>
    unfold wS63
    rcases List.mem_cons.1 h with rfl | h
    · omega
    · have := ih h; omega
theorem eqSubEventS_loop (l s : List S63) (hl : wS63 l < 4611686018427387904) (hm : ∀ x ∈ s, x ∈ l) : ∀ i : Int, 0 ≤ i → l.drop i.toNat = s → laws_eqSubEventS.l0 l l i = some (.a ()) := by
  induction s with
  | nil => intro i h0 hd; rw [laws_eqSubEventS.l0, if_neg (suf_nil h0 hd)]
  | cons e t ih =>
    intro i h0 hd
    have h9 := wS63_len l
    obtain ⟨q1, q2, q3⟩ := suf_cons h0 hd z63
    rw [laws_eqSubEventS.l0, if_pos q1, if_pos ⟨h0, q1⟩, if_pos ⟨h0, q1⟩, q2, eqSubEvent_is e.f0 e.f1 e.f2 (by have h7 := wS63_mem (hm e (by simp)); unfold w63 at h7; omega), some_bind, if_neg (by decide), wi64_in (by omega) (by omega)]
    exact ih (fun x hx => hm x (by simp [hx])) (i + 1) (by omega) q3
theorem eqSubEventS_is (l : List S63) (hl : wS63 l < 4611686018427387904) : laws_eqSubEventS.f l l = some true := by
  unfold laws_eqSubEventS.f
  rw [if_neg (fun h => h rfl), eqSubEventS_loop l l hl (fun _ h => h) 0 (by omega) rfl, some_bind]
theorem eqSubView_is (y0 : Int) (y1 : Int) (y2 : (List Int)) (y3 : Int) (y4 : Int) (y5 : Int) (y6 : Int) (y7 : Int) (h : 8 + y2.length < 4611686018427387904) : laws_eqSubView.f y0 y1 y2 y3 y4 y5 y6 y7 y0 y1 y2 y3 y4 y5 y6 y7 = some true := by
  unfold laws_eqSubView.f
  simp [eqInt64S_is y2 (by omega)]
theorem mhInt64S_loop (s : List Int) : ∀ a : Int, 0 ≤ a → a + s.length < 4611686018427387904 → ∃ (k : Int) (s' : List Int), s'.length = s.length ∧ a ≤ k ∧ k ≤ a + s.length ∧ (∀ (i : Int) (p : List Int), (p.length : Int) = i → i + s.length < 4611686018427387904 → laws_markInt64S.l0 a i (p ++ s) = some (k, p ++ s')) ∧ (∀ (i : Int) (p : List Int), (p.length : Int) = i → i + s.length < 4611686018427387904 → laws_heldInt64S.l0 (p ++ s') a i = some (.a k)) := by
  induction s with
  | nil => intro a h0 h1; exact ⟨a, [], rfl, by omega, by simp, fun i p hp _ => by rw [laws_markInt64S.l0, if_neg (nlt_app hp)], fun i p hp _ => by rw [laws_heldInt64S.l0, if_neg (nlt_app hp)]⟩
  | cons x t ih =>
    intro a h0 h1
    rw [List.length_cons] at h1
    have w1 : IntKind.i64.wrap (a + 1) = a + 1 := wi64_in (by omega) (by omega)
    obtain ⟨k, s', g1, g2, g3, g4, g5⟩ := ih (a + 1) (by omega) (by omega)
    refine ⟨k, a :: s', by simp [g1], by omega, by rw [List.length_cons]; omega, fun i p hp hb => ?_, fun i p hp hb => ?_⟩
    · rw [List.length_cons] at hb
      rw [laws_markInt64S.l0, if_pos (lt_app hp).2, if_pos (lt_app hp)]
      have wi : IntKind.i64.wrap (i + 1) = i + 1 := wi64_in (by omega) (by omega)
      simp only [w1, some_bind]
      rw [set_app hp, wi, g4 (i + 1) _ (len_snoc hp) (by omega)]; simp
    · rw [List.length_cons] at hb
      rw [laws_heldInt64S.l0, if_pos (lt_app hp).2, if_pos (lt_app hp), rd_app hp]
      have wi : IntKind.i64.wrap (i + 1) = i + 1 := wi64_in (by omega) (by omega)
      simp only [w1, some_bind, ne_eq, not_true_eq_false, if_false]
      rw [wi, show p ++ a :: s' = (p ++ [a]) ++ s' by simp, g5 (i + 1) _ (len_snoc hp) (by omega)]
theorem mhInt64S (l : List Int) (a : Int) (h0 : 0 ≤ a) (h1 : a + l.length < 4611686018427387904) : ∃ (k : Int) (l' : List Int), l'.length = l.length ∧ a ≤ k ∧ k ≤ a + l.length ∧ laws_markInt64S.f l a = some (k, l') ∧ laws_heldInt64S.f l' a = some k := by
  obtain ⟨k, s', g1, g2, g3, g4, g5⟩ := mhInt64S_loop l a h0 h1
  have e1 := g4 0 [] rfl (by omega)
  rw [List.nil_append, List.nil_append] at e1
  have e2 := g5 0 [] rfl (by omega)
  rw [List.nil_append] at e2
  refine ⟨k, s', g1, g2, g3, ?_, ?_⟩
  · unfold laws_markInt64S.f; rw [e1, some_bind]
  · unfold laws_heldInt64S.f; rw [e2, some_bind]
theorem mhSubEventS_loop (s : List S63) : ∀ a : Int, 0 ≤ a → a + wS63 s < 4611686018427387904 → ∃ (k : Int) (s' : List S63), s'.length = s.length ∧ a ≤ k ∧ k ≤ a + wS63 s ∧ (∀ (i : Int) (p : List S63), (p.length : Int) = i → i + s.length < 4611686018427387904 → laws_markSubEventS.l0 a i (p ++ s) = some (k, p ++ s')) := by
  induction s with
  | nil => intro a h0 h1; exact ⟨a, [], rfl, by omega, by simp [wS63], fun i p hp _ => by rw [laws_markSubEventS.l0, if_neg (nlt_app hp)]⟩
  | cons x t ih =>
    intro a h0 h1
    have hw : wS63 (x :: t) = w63 x + wS63 t := rfl
    rw [hw] at h1
    have hx : w63 x = 4 := rfl
    have w1 : IntKind.i64.wrap (a + 1) = a + 1 := wi64_in (by omega) (by omega)
    have w2 : IntKind.i64.wrap (a + 1 + 1) = a + 1 + 1 := wi64_in (by omega) (by omega)
    have w3 : IntKind.i64.wrap (a + 1 + 1 + 1) = a + 1 + 1 + 1 := wi64_in (by omega) (by omega)
    obtain ⟨k, s', g1, g2, g3, g4⟩ := ih (a + 1 + 1 + 1) (by omega) (by omega)
    refine ⟨k, (⟨a, a + 1, IntKind.u32.wrap (a + 1 + 1)⟩ : S63) :: s', by simp [g1], by omega, by rw [hw]; omega, fun i p hp hb => ?_⟩
    · rw [List.length_cons] at hb
      rw [laws_markSubEventS.l0, if_pos (lt_app hp).2, if_pos (lt_app hp)]
      have wi : IntKind.i64.wrap (i + 1) = i + 1 := wi64_in (by omega) (by omega)
      simp only [w1, w2, w3, some_bind]
      rw [set_app hp, wi, g4 (i + 1) _ (len_snoc hp) (by omega)]; simp
theorem mhSubEventS (l : List S63) (a : Int) (h0 : 0 ≤ a) (h1 : a + wS63 l < 4611686018427387904) : ∃ (k : Int) (l' : List S63), l'.length = l.length ∧ a ≤ k ∧ k ≤ a + wS63 l ∧ laws_markSubEventS.f l a = some (k, l') := by
  obtain ⟨k, s', g1, g2, g3, g4⟩ := mhSubEventS_loop l a h0 h1
  have h9 := wS63_len l
  have e1 := g4 0 [] rfl (by omega)
  rw [List.nil_append, List.nil_append] at e1
  refine ⟨k, s', g1, g2, g3, ?_⟩
  · unfold laws_markSubEventS.f; rw [e1, some_bind]
theorem szSubEventS_is (l : List S164) (a : Int) (ha : 0 ≤ a ∧ a ≤ 1048576) (hl : l.length < 4611686018427387904) : ∃ r, laws_szSubEventS.f l a = some r ∧ (r < 0 ∨ (0 ≤ r ∧ r = a - l.length)) := by
  unfold laws_szSubEventS.f
  rw [wi64_in (by omega) (by omega)]
  by_cases c : a - (l.length : Int) < 0
  · rw [if_pos c]; exact ⟨_, rfl, .inl (by omega)⟩
  · rw [if_neg c]; exact ⟨_, rfl, .inr (by omega)⟩
def cv164 (x : S164) : S63 := ⟨x.f0, x.f1, x.f2⟩
theorem toSubEventS_loop (l s : List S164) (hl : l.length ≤ 1048576) : ∀ (i : Int) (p : List S63), 0 ≤ i → (p.length : Int) = i → l.drop i.toNat = s → i ≤ l.length → laws_toSubEventS.l0 l i (p ++ List.replicate s.length z63) = some (p ++ (s.map cv164)) := by
  induction s with
  | nil => intro i p h0 hp hd h1; rw [laws_toSubEventS.l0, if_neg (suf_nil h0 hd)]; simp
  | cons e t ih =>
    intro i p h0 hp hd h1
    obtain ⟨q1, q2, q3⟩ := suf_cons h0 hd z164
    rw [List.length_cons, List.replicate_succ, laws_toSubEventS.l0, if_pos q1, if_pos ⟨h0, q1⟩, q2]
    simp only [laws_toSubEvent.f, some_bind]
    rw [if_pos (lt_app hp), set_app hp, wi64_in (by omega) (by omega)]
    refine (ih (i + 1) (p ++ [(cv164 e)]) (by omega) (len_snoc hp) q3 (by omega)).trans ?_
    simp
theorem toSubEventS_is (l : List S164) (hl : l.length ≤ 1048576) : laws_toSubEventS.f l = some (l.map cv164) := by
  unfold laws_toSubEventS.f
  rw [if_pos (by omega), show (l.length : Int).toNat = l.length by omega]
  have := toSubEventS_loop l l (by omega) 0 [] (by omega) rfl rfl (by omega)
  rw [List.nil_append, List.nil_append] at this
  rw [this, some_bind]
end Go.AK
