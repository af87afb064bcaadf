/- A law: sizes, copies, comparisons, marks. Conditions: bounds of lengths. (printed by a program of this session, wip/ak/fr.py) -/
import Derived.Test.YtlladicdmmdboaaUReorderState2
import Derived.Test.YtlladicdmmdboaaAk2
set_option linter.unusedSimpArgs false
set_option linter.unusedVariables false
namespace Go.AK
open Go
theorem eqByteS_loop (l s : List Int) (hl : l.length < 4611686018427387904) : ∀ i : Int, 0 ≤ i → l.drop i.toNat = s → laws_eqByteS.l0 l l i = some (.a ()) := by
  induction s with
  | nil => intro i h0 hd; rw [laws_eqByteS.l0, if_neg (suf_nil h0 hd)]
  | cons e t ih =>
    intro i h0 hd
    obtain ⟨q1, q2, q3⟩ := suf_cons h0 hd 0
    rw [laws_eqByteS.l0, if_pos q1, if_pos ⟨h0, q1⟩, if_pos ⟨h0, q1⟩, if_neg (fun h => h rfl), wi64_in (by omega) (by omega)]
    exact ih (i + 1) (by omega) q3
theorem eqByteS_is (l : List Int) (hl : l.length < 4611686018427387904) : laws_eqByteS.f l l = some true := by
  unfold laws_eqByteS.f
  rw [if_neg (fun h => h rfl), eqByteS_loop l l hl 0 (by omega) rfl, some_bind]
theorem eqReorderEvent_is (y0 : Int) (y1 : Int) (y2 : (List Int)) (y3 : Int) (h : 4 + y2.length < 4611686018427387904) : laws_eqReorderEvent.f y0 y1 y2 y3 y0 y1 y2 y3 = some true := by
  unfold laws_eqReorderEvent.f
  simp [eqByteS_is y2 (by omega)]
def w116 (x : S116) : Nat := 4 + x.f2.length
def wS116 : List S116 → Nat
  | [] => 0
  | x :: t => w116 x + wS116 t
theorem wS116_len (l : List S116) : l.length ≤ wS116 l := by
  induction l with
  | nil => exact Nat.le_refl _
  | cons x t ih => rw [List.length_cons]; unfold wS116; unfold w116; omega
theorem wS116_mem {l : List S116} {x : S116} (h : x ∈ l) : w116 x ≤ wS116 l := by
  induction l with
  | nil => cases h
  | cons y t ih =>
    unfold wS116
    rcases List.mem_cons.1 h with rfl | h
    · omega
    · have := ih h; omega
theorem eqReorderEventS_loop (l s : List S116) (hl : wS116 l < 4611686018427387904) (hm : ∀ x ∈ s, x ∈ l) : ∀ i : Int, 0 ≤ i → l.drop i.toNat = s → laws_eqReorderEventS.l0 l l i = some (.a ()) := by
  induction s with
  | nil => intro i h0 hd; rw [laws_eqReorderEventS.l0, if_neg (suf_nil h0 hd)]
  | cons e t ih =>
    intro i h0 hd
    have h9 := wS116_len l
    obtain ⟨q1, q2, q3⟩ := suf_cons h0 hd z116
    rw [laws_eqReorderEventS.l0, if_pos q1, if_pos ⟨h0, q1⟩, if_pos ⟨h0, q1⟩, q2, eqReorderEvent_is e.f0 e.f1 e.f2 e.f3 (by have h7 := wS116_mem (hm e (by simp)); unfold w116 at h7; omega), some_bind, if_neg (by decide), wi64_in (by omega) (by omega)]
    exact ih (fun x hx => hm x (by simp [hx])) (i + 1) (by omega) q3
theorem eqReorderEventS_is (l : List S116) (hl : wS116 l < 4611686018427387904) : laws_eqReorderEventS.f l l = some true := by
  unfold laws_eqReorderEventS.f
  rw [if_neg (fun h => h rfl), eqReorderEventS_loop l l hl (fun _ h => h) 0 (by omega) rfl, some_bind]
def w122 (x : S122) : Nat := 3
def wS122 : List S122 → Nat
  | [] => 0
  | x :: t => w122 x + wS122 t
theorem wS122_len (l : List S122) : l.length ≤ wS122 l := by
  induction l with
  | nil => exact Nat.le_refl _
  | cons x t ih => rw [List.length_cons]; unfold wS122; unfold w122; omega
theorem wS122_mem {l : List S122} {x : S122} (h : x ∈ l) : w122 x ≤ wS122 l := by
  induction l with
  | nil => cases h
  | cons y t ih =>
    unfold wS122
    rcases List.mem_cons.1 h with rfl | h
    · omega
    · have := ih h; omega
theorem eqSpan_is (y0 : Int) (y1 : Int) (h : 3 < 4611686018427387904) : laws_eqSpan.f y0 y1 y0 y1 = some true := by
  unfold laws_eqSpan.f
  simp []
theorem eqSpanS_loop (l s : List S122) (hl : wS122 l < 4611686018427387904) (hm : ∀ x ∈ s, x ∈ l) : ∀ i : Int, 0 ≤ i → l.drop i.toNat = s → laws_eqSpanS.l0 l l i = some (.a ()) := by
  induction s with
  | nil => intro i h0 hd; rw [laws_eqSpanS.l0, if_neg (suf_nil h0 hd)]
  | cons e t ih =>
    intro i h0 hd
    have h9 := wS122_len l
    obtain ⟨q1, q2, q3⟩ := suf_cons h0 hd z122
    rw [laws_eqSpanS.l0, if_pos q1, if_pos ⟨h0, q1⟩, if_pos ⟨h0, q1⟩, q2, eqSpan_is e.f0 e.f1 (by have h7 := wS122_mem (hm e (by simp)); unfold w122 at h7; omega), some_bind, if_neg (by decide), wi64_in (by omega) (by omega)]
    exact ih (fun x hx => hm x (by simp [hx])) (i + 1) (by omega) q3
theorem eqSpanS_is (l : List S122) (hl : wS122 l < 4611686018427387904) : laws_eqSpanS.f l l = some true := by
  unfold laws_eqSpanS.f
  rw [if_neg (fun h => h rfl), eqSpanS_loop l l hl (fun _ h => h) 0 (by omega) rfl, some_bind]
theorem eqReorderView_is (y0 : Int) (y1 : Int) (y2 : (List S122)) (y3 : Int) (y4 : Int) (h : 5 + wS122 y2 < 4611686018427387904) : laws_eqReorderView.f y0 y1 y2 y3 y4 y0 y1 y2 y3 y4 = some true := by
  unfold laws_eqReorderView.f
  simp [eqSpanS_is y2 (by omega)]
theorem mhByteS_loop (s : List Int) : ∀ a : Int, 0 ≤ a → a + s.length < 4611686018427387904 → ∃ (k : Int) (s' : List Int), s'.length = s.length ∧ a ≤ k ∧ k ≤ a + s.length ∧ (∀ (i : Int) (p : List Int), (p.length : Int) = i → i + s.length < 4611686018427387904 → laws_markByteS.l0 a i (p ++ s) = some (k, p ++ s')) := by
  induction s with
  | nil => intro a h0 h1; exact ⟨a, [], rfl, by omega, by simp, fun i p hp _ => by rw [laws_markByteS.l0, if_neg (nlt_app hp)]⟩
  | cons x t ih =>
    intro a h0 h1
    rw [List.length_cons] at h1
    have w1 : IntKind.i64.wrap (a + 1) = a + 1 := wi64_in (by omega) (by omega)
    obtain ⟨k, s', g1, g2, g3, g4⟩ := ih (a + 1) (by omega) (by omega)
    refine ⟨k, (IntKind.u8.wrap a) :: s', by simp [g1], by omega, by rw [List.length_cons]; omega, fun i p hp hb => ?_⟩
    · rw [List.length_cons] at hb
      rw [laws_markByteS.l0, if_pos (lt_app hp).2, if_pos (lt_app hp)]
      have wi : IntKind.i64.wrap (i + 1) = i + 1 := wi64_in (by omega) (by omega)
      simp only [w1, some_bind]
      rw [set_app hp, wi, g4 (i + 1) _ (len_snoc hp) (by omega)]; simp
theorem mhByteS (l : List Int) (a : Int) (h0 : 0 ≤ a) (h1 : a + l.length < 4611686018427387904) : ∃ (k : Int) (l' : List Int), l'.length = l.length ∧ a ≤ k ∧ k ≤ a + l.length ∧ laws_markByteS.f l a = some (k, l') := by
  obtain ⟨k, s', g1, g2, g3, g4⟩ := mhByteS_loop l a h0 h1
  have e1 := g4 0 [] rfl (by omega)
  rw [List.nil_append, List.nil_append] at e1
  refine ⟨k, s', g1, g2, g3, ?_⟩
  · unfold laws_markByteS.f; rw [e1, some_bind]
theorem mhReorderEventS_loop (s : List S116) : ∀ a : Int, 0 ≤ a → a + wS116 s < 4611686018427387904 → ∃ (k : Int) (s' : List S116), s'.length = s.length ∧ a ≤ k ∧ k ≤ a + wS116 s ∧ (∀ (i : Int) (p : List S116), (p.length : Int) = i → i + s.length < 4611686018427387904 → laws_markReorderEventS.l0 a i (p ++ s) = some (k, p ++ s')) := by
  induction s with
  | nil => intro a h0 h1; exact ⟨a, [], rfl, by omega, by simp [wS116], fun i p hp _ => by rw [laws_markReorderEventS.l0, if_neg (nlt_app hp)]⟩
  | cons x t ih =>
    intro a h0 h1
    have hw : wS116 (x :: t) = w116 x + wS116 t := rfl
    rw [hw] at h1
    have hx : w116 x = 4 + x.f2.length := rfl
    have w1 : IntKind.i64.wrap (a + 1) = a + 1 := wi64_in (by omega) (by omega)
    have w2 : IntKind.i64.wrap (a + 1 + 1) = a + 1 + 1 := wi64_in (by omega) (by omega)
    obtain ⟨k1, y1, u1, a1, b1, m1⟩ := mhByteS x.f2 (a + 1 + 1) (by omega) (by omega)
    have n1 : (k1 < 0) = False := by simp; omega
    have w3 : IntKind.i64.wrap (k1 + 1) = k1 + 1 := wi64_in (by omega) (by omega)
    obtain ⟨k, s', g1, g2, g3, g4⟩ := ih (k1 + 1) (by omega) (by omega)
    refine ⟨k, (⟨a, IntKind.u64.wrap (a + 1), y1, k1⟩ : S116) :: s', by simp [g1], by omega, by rw [hw]; omega, fun i p hp hb => ?_⟩
    · rw [List.length_cons] at hb
      rw [laws_markReorderEventS.l0, if_pos (lt_app hp).2, if_pos (lt_app hp), rd_app hp]
      have wi : IntKind.i64.wrap (i + 1) = i + 1 := wi64_in (by omega) (by omega)
      simp only [w1, w2, w3, m1, some_bind]
      rw [set_app hp, wi, g4 (i + 1) _ (len_snoc hp) (by omega)]; simp
theorem mhReorderEventS (l : List S116) (a : Int) (h0 : 0 ≤ a) (h1 : a + wS116 l < 4611686018427387904) : ∃ (k : Int) (l' : List S116), l'.length = l.length ∧ a ≤ k ∧ k ≤ a + wS116 l ∧ laws_markReorderEventS.f l a = some (k, l') := by
  obtain ⟨k, s', g1, g2, g3, g4⟩ := mhReorderEventS_loop l a h0 h1
  have h9 := wS116_len l
  have e1 := g4 0 [] rfl (by omega)
  rw [List.nil_append, List.nil_append] at e1
  refine ⟨k, s', g1, g2, g3, ?_⟩
  · unfold laws_markReorderEventS.f; rw [e1, some_bind]
theorem mhSpanS_loop (s : List S122) : ∀ a : Int, 0 ≤ a → a + wS122 s < 4611686018427387904 → ∃ (k : Int) (s' : List S122), s'.length = s.length ∧ a ≤ k ∧ k ≤ a + wS122 s ∧ (∀ (i : Int) (p : List S122), (p.length : Int) = i → i + s.length < 4611686018427387904 → laws_markSpanS.l0 a i (p ++ s) = some (k, p ++ s')) ∧ (∀ (i : Int) (p : List S122), (p.length : Int) = i → i + s.length < 4611686018427387904 → laws_heldSpanS.l0 (p ++ s') a i = some (.a k)) := by
  induction s with
  | nil => intro a h0 h1; exact ⟨a, [], rfl, by omega, by simp [wS122], fun i p hp _ => by rw [laws_markSpanS.l0, if_neg (nlt_app hp)], fun i p hp _ => by rw [laws_heldSpanS.l0, if_neg (nlt_app hp)]⟩
  | cons x t ih =>
    intro a h0 h1
    have hw : wS122 (x :: t) = w122 x + wS122 t := rfl
    rw [hw] at h1
    have hx : w122 x = 3 := rfl
    have w1 : IntKind.i64.wrap (a + 1) = a + 1 := wi64_in (by omega) (by omega)
    have w2 : IntKind.i64.wrap (a + 1 + 1) = a + 1 + 1 := wi64_in (by omega) (by omega)
    obtain ⟨k, s', g1, g2, g3, g4, g5⟩ := ih (a + 1 + 1) (by omega) (by omega)
    refine ⟨k, (⟨IntKind.u64.wrap a, IntKind.u64.wrap (a + 1)⟩ : S122) :: s', by simp [g1], by omega, by rw [hw]; omega, fun i p hp hb => ?_, fun i p hp hb => ?_⟩
    · rw [List.length_cons] at hb
      rw [laws_markSpanS.l0, if_pos (lt_app hp).2, if_pos (lt_app hp)]
      have wi : IntKind.i64.wrap (i + 1) = i + 1 := wi64_in (by omega) (by omega)
      simp only [w1, w2, some_bind]
      rw [set_app hp, wi, g4 (i + 1) _ (len_snoc hp) (by omega)]; simp
    · rw [List.length_cons] at hb
      rw [laws_heldSpanS.l0, if_pos (lt_app hp).2, if_pos (lt_app hp), rd_app hp]
      have wi : IntKind.i64.wrap (i + 1) = i + 1 := wi64_in (by omega) (by omega)
      simp only [w1, w2, some_bind, ne_eq, not_true_eq_false, if_false]
      rw [wi, show p ++ (⟨IntKind.u64.wrap a, IntKind.u64.wrap (a + 1)⟩ : S122) :: s' = (p ++ [(⟨IntKind.u64.wrap a, IntKind.u64.wrap (a + 1)⟩ : S122)]) ++ s' by simp, g5 (i + 1) _ (len_snoc hp) (by omega)]
theorem mhSpanS (l : List S122) (a : Int) (h0 : 0 ≤ a) (h1 : a + wS122 l < 4611686018427387904) : ∃ (k : Int) (l' : List S122), l'.length = l.length ∧ a ≤ k ∧ k ≤ a + wS122 l ∧ laws_markSpanS.f l a = some (k, l') ∧ laws_heldSpanS.f l' a = some k := by
  obtain ⟨k, s', g1, g2, g3, g4, g5⟩ := mhSpanS_loop l a h0 h1
  have h9 := wS122_len l
  have e1 := g4 0 [] rfl (by omega)
  rw [List.nil_append, List.nil_append] at e1
  have e2 := g5 0 [] rfl (by omega)
  rw [List.nil_append] at e2
  refine ⟨k, s', g1, g2, g3, ?_, ?_⟩
  · unfold laws_markSpanS.f; rw [e1, some_bind]
  · unfold laws_heldSpanS.f; rw [e2, some_bind]
theorem szByteS_is (l : List Int) (a : Int) (ha : 0 ≤ a ∧ a ≤ 1048576) (hl : l.length < 9223372036854775808) : ∃ r, laws_szByteS.f l a = some r ∧ (r < 0 ∨ (0 ≤ r ∧ r = a - l.length)) := by
  unfold laws_szByteS.f
  rw [wi64_in (by omega) (by omega)]
  by_cases c : a - (l.length : Int) < 0
  · rw [if_pos c]; exact ⟨_, rfl, .inl (by omega)⟩
  · rw [if_neg c]; exact ⟨_, rfl, .inr (by omega)⟩
def bz172 (x : S172) : Prop := (x.f2.length < 9223372036854775808)
def zz172 (x : S172) : Nat := x.f2.length
def zS172 : List S172 → Nat
  | [] => 0
  | x :: t => (1 + zz172 x) + zS172 t
theorem zS172_len (l : List S172) : l.length ≤ zS172 l := by
  induction l with
  | nil => exact Nat.le_refl _
  | cons x t ih => rw [List.length_cons]; unfold zS172; omega
theorem zS172_mem {l : List S172} {x : S172} (h : x ∈ l) : zz172 x ≤ zS172 l := by
  induction l with
  | nil => cases h
  | cons y t ih =>
    unfold zS172
    rcases List.mem_cons.1 h with rfl | h
    · omega
    · have := ih h; omega
theorem szReorderEvent_is (y0 : Int) (y1 : Int) (y2 : (List Int)) (y3 : Int) (a : Int) (ha : 0 ≤ a ∧ a ≤ 1048576) (hl : (y2.length < 9223372036854775808)) : ∃ r, laws_szReorderEvent.f y0 y1 y2 y3 a = some r ∧ (r < 0 ∨ (0 ≤ r ∧ r = a - (y2.length : Nat))) := by
  unfold laws_szReorderEvent.f
  obtain ⟨r0, e0, c0⟩ := szByteS_is y2 a (by omega) hl
  rw [e0, some_bind]
  by_cases d0 : r0 < 0
  · rw [if_pos d0]; exact ⟨_, rfl, .inl (by omega)⟩
  rw [if_neg d0]
  exact ⟨_, rfl, .inr (by omega)⟩
theorem szReorderEventS_loop (l : List S172) (hl : l.length ≤ 1048576) (s : List S172) (hs : ∀ x ∈ s, bz172 x) : ∀ (a i : Int), 0 ≤ i → i ≤ l.length → l.drop i.toNat = s → 0 ≤ a → a ≤ 1048576 →
    ∃ y, laws_szReorderEventS.l0 l a i = some y ∧ ∀ x, y = .a x → 0 ≤ x ∧ x + zS172 s = a + s.length := by
  induction s with
  | nil =>
    intro a i h0 h1 hd ha hb
    rw [laws_szReorderEventS.l0, if_neg (suf_nil h0 hd)]
    exact ⟨_, rfl, fun x hx => by cases hx; exact ⟨ha, by simp [zS172]⟩⟩
  | cons e t ih =>
    intro a i h0 h1 hd ha hb
    have hz : zS172 (e :: t) = (1 + zz172 e) + zS172 t := rfl
    obtain ⟨q1, q2, q3⟩ := suf_cons h0 hd z172
    obtain ⟨r, e1, e2⟩ := szReorderEvent_is e.f0 e.f1 e.f2 e.f3 a ⟨ha, hb⟩ (hs e (by simp))
    rw [laws_szReorderEventS.l0, if_pos q1, if_pos ⟨h0, q1⟩, q2, e1, some_bind, wi64_in (n := i + 1) (by omega) (by omega)]
    by_cases c : r < 0
    · rw [if_pos c]; exact ⟨_, rfl, fun x hx => by cases hx⟩
    · rw [if_neg c]
      have hzz : zz172 e = e.f2.length := rfl
      obtain ⟨y, hy, hq⟩ := ih (fun x hx => hs x (by simp [hx])) r (i + 1) (by omega) (by omega) q3 (by omega) (by omega)
      exact ⟨y, hy, fun x hx => by have := hq x hx; rw [List.length_cons]; omega⟩
theorem szReorderEventS_is (l : List S172) (a : Int) (ha : 0 ≤ a ∧ a ≤ 1048576) (hl : l.length < 9223372036854775808) (hs : ∀ x ∈ l, bz172 x) : ∃ r, laws_szReorderEventS.f l a = some r ∧ (r < 0 ∨ (0 ≤ r ∧ r = a - zS172 l)) := by
  unfold laws_szReorderEventS.f
  have h9 := zS172_len l
  rw [wi64_in (by omega) (by omega)]
  by_cases c : a - (l.length : Int) < 0
  · rw [if_pos c]; exact ⟨_, rfl, .inl (by omega)⟩
  · rw [if_neg c]
    obtain ⟨y, hy, hq⟩ := szReorderEventS_loop l (by omega) l hs (a - l.length) 0 (by omega) (by omega) rfl (by omega) (by omega)
    rw [hy, some_bind]
    cases y with
    | a x => exact ⟨_, rfl, .inr (by have := hq x rfl; omega)⟩
    | b x => exact ⟨_, rfl, .inl (by omega)⟩
theorem toByteS_loop (l s : List Int) (hl : l.length ≤ 1048576) : ∀ (i : Int) (p : List Int), 0 ≤ i → (p.length : Int) = i → l.drop i.toNat = s → i ≤ l.length → laws_toByteS.l0 l i (p ++ List.replicate s.length 0) = some (p ++ s) := by
  induction s with
  | nil => intro i p h0 hp hd h1; rw [laws_toByteS.l0, if_neg (suf_nil h0 hd)]; simp
  | cons e t ih =>
    intro i p h0 hp hd h1
    obtain ⟨q1, q2, q3⟩ := suf_cons h0 hd 0
    rw [List.length_cons, List.replicate_succ, laws_toByteS.l0, if_pos q1, if_pos ⟨h0, q1⟩]
    rw [if_pos (lt_app hp), q2, set_app hp, wi64_in (by omega) (by omega)]
    refine (ih (i + 1) (p ++ [e]) (by omega) (len_snoc hp) q3 (by omega)).trans ?_
    simp
theorem toByteS_is (l : List Int) (hl : l.length ≤ 1048576) : laws_toByteS.f l = some l := by
  unfold laws_toByteS.f
  rw [if_pos (by omega), show (l.length : Int).toNat = l.length by omega]
  have := toByteS_loop l l (by omega) 0 [] (by omega) rfl rfl (by omega)
  rw [List.nil_append, List.nil_append] at this
  rw [this, some_bind]
def cv172 (x : S172) : S116 := ⟨x.f0, x.f1, x.f2, x.f3⟩
theorem toReorderEventS_loop (l s : List S172) (hl : l.length ≤ 1048576) (hs : ∀ x ∈ s, zz172 x ≤ 1048576) : ∀ (i : Int) (p : List S116), 0 ≤ i → (p.length : Int) = i → l.drop i.toNat = s → i ≤ l.length → laws_toReorderEventS.l0 l i (p ++ List.replicate s.length z116) = some (p ++ (s.map cv172)) := by
  induction s with
  | nil => intro i p h0 hp hd h1; rw [laws_toReorderEventS.l0, if_neg (suf_nil h0 hd)]; simp
  | cons e t ih =>
    intro i p h0 hp hd h1
    have h9 := hs e (by simp)
    unfold zz172 at h9
    obtain ⟨q1, q2, q3⟩ := suf_cons h0 hd z172
    rw [List.length_cons, List.replicate_succ, laws_toReorderEventS.l0, if_pos q1, if_pos ⟨h0, q1⟩, q2]
    simp only [laws_toReorderEvent.f, toByteS_is e.f2 (by omega), some_bind]
    rw [if_pos (lt_app hp), set_app hp, wi64_in (by omega) (by omega)]
    refine (ih (fun x hx => hs x (by simp [hx])) (i + 1) (p ++ [(cv172 e)]) (by omega) (len_snoc hp) q3 (by omega)).trans ?_
    simp
theorem toReorderEventS_is (l : List S172) (hl : zS172 l ≤ 1048576) : laws_toReorderEventS.f l = some (l.map cv172) := by
  unfold laws_toReorderEventS.f
  have h8 := zS172_len l
  rw [if_pos (by omega), show (l.length : Int).toNat = l.length by omega]
  have := toReorderEventS_loop l l (by omega) (fun x hx => by have := zS172_mem hx; omega) 0 [] (by omega) rfl rfl (by omega)
  rw [List.nil_append, List.nil_append] at this
  rw [this, some_bind]
end Go.AK
