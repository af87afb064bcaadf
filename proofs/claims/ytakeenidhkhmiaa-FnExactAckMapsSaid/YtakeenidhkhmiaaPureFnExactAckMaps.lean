/- For every list of mappings and every number, the program's AckMaps is the reference's; it writes into no argument and its answer is its own memory. No condition. -/
import Derived.Test.YtakeenidhkhmiaaPFnExactAckMapsx6
import Derived.Test.YtakeenidhkhmiaaEvB
namespace Go.Proofs.Ytakeenidhkhmiaa.Pure
open Go.RowKit Go.Proofs.Ytakeenidhkhmiaa.PFnExactAckMaps Go.Proofs.YtakeenidhkhmiaaW.PrintWords Go.Proofs.YtakeenidhkhmiaaW.PrintLast Go.Proofs.Ytakeenidhkhmiaa.Base
abbrev Map := S84
abbrev LMap := S109
/-! ### the law's own helpers at mappings -/
def toI (x : LMap) : Map := ⟨x.f0, x.f1, x.f2, x.f3, x.f4⟩
theorem rdM_mid (pre xs : List Map) (x : Map) : rd_T84 (pre ++ x :: xs) (pre.length : Int) = x := by simp [rd_T84]
theorem toMapS_loop (xs : List LMap) : ∀ (pre : List LMap) (ys : List Map), ys.length = xs.length → (pre ++ xs).length ≤ 1048576 →
    Ev (fun k => laws_toMappingS.l0 k (pre ++ xs) (pre.map toI ++ ys) (pre.length : Int)) ((pre ++ xs).map toI) := by
  induction xs with
  | nil =>
    intro pre ys hy hl
    obtain rfl : ys = [] := List.eq_nil_of_length_eq_zero hy
    refine ev_succ ?_; simp only [laws_toMappingS.l0]; exact ev_neg (by simp) (ev_eq (Ev.now _) (by simp))
  | cons s t ih =>
    intro pre ys hy hl
    obtain ⟨u, us, rfl⟩ : ∃ u us, ys = u :: us := by cases ys with | nil => simp at hy | cons u us => exact ⟨u, us, rfl⟩
    simp only [List.length_append, List.length_cons] at hl hy
    have hs : rd_T109 (pre ++ s :: t) (pre.length : Int) = s := by simp [rd_T109]
    refine ev_succ ?_
    simp only [laws_toMappingS.l0, laws_toMapping.f]
    refine ev_pos (by simp; omega) (ev_pos (by omega) (ev_some (ev_pos (by simp; omega) ?_)))
    rw [hs, next_at pre s (by omega), snoc_cons pre t s]
    have e : (pre.map toI ++ u :: us).set (pre.length : Int).toNat (⟨s.f0, s.f1, s.f2, s.f3, s.f4⟩ : Map) = (pre ++ [s]).map toI ++ us := by
      have := set_mid (pre.map toI) us u (toI s)
      rw [List.length_map] at this
      rw [show (⟨s.f0, s.f1, s.f2, s.f3, s.f4⟩ : Map) = toI s from rfl, this]; simp
    rw [e]
    exact ih (pre ++ [s]) us (by omega) (by simp; omega)
theorem toMapS_is (l : List LMap) (hl : l.length ≤ 1048576) : Ev (fun k => laws_toMappingS.f k l) (l.map toI) := by
  unfold laws_toMappingS.f
  refine ev_pos (by omega) (ev_pos (by omega) ?_)
  exact toMapS_loop l [] _ (by simp) (by simpa using hl)
theorem eqMapS_loop (xs : List Map) : ∀ pre : List Map, (pre ++ xs).length ≤ 4611686018427387904 → Ev (fun k => laws_eqMappingS.l0 k (pre ++ xs) (pre ++ xs) (pre.length : Int)) true := by
  induction xs with
  | nil => intro pre hl; refine ev_succ ?_; simp only [laws_eqMappingS.l0]; exact ev_neg (by simp) (Ev.now _)
  | cons s t ih =>
    intro pre hl
    simp only [List.length_append, List.length_cons] at hl
    refine ev_succ ?_
    simp only [laws_eqMappingS.l0]
    refine ev_pos (by simp; omega) (ev_pos (by omega) (ev_pos (by simp; omega) ?_))
    refine ev_bind (a := true) (by simp only [laws_eqMapping.f]; exact Ev.now _) ?_
    refine ev_pos (by trivial) ?_
    rw [next_at pre s (by omega), snoc_cons pre t s]
    exact ih (pre ++ [s]) (by simp; omega)
theorem eqMapS_refl (l : List Map) (hl : l.length ≤ 4611686018427387904) : Ev (fun k => laws_eqMappingS.f k l l) true := by
  unfold laws_eqMappingS.f
  refine ev_pos (by trivial) ?_
  exact eqMapS_loop l [] (by simpa using hl)
theorem szMapS_is (l : List LMap) (h : l.length ≤ maxLen) : laws_szMappingS.f l 1048576 = some (if l.length ≤ 1048576 then 1048576 - (l.length : Int) else -1) := by
  unfold maxLen at h
  unfold laws_szMappingS.f
  rw [w64_in (n := 1048576 - (l.length : Int)) (by omega) (by omega)]
  by_cases c : l.length ≤ 1048576
  · rw [if_neg (by omega), if_pos c]
  · rw [if_pos (by omega), if_neg c]
theorem markMap (xs : List Map) : ∀ (pre : List Map) (m : Int), (pre ++ xs).length ≤ 1048576 → 1 ≤ m → m + 5 * xs.length ≤ 1000000000 →
    ∃ ys, ys.length = xs.length ∧ Ev (fun k => laws_markMappingS.l0 k (pre ++ xs) m (pre.length : Int)) (m + 5 * xs.length, pre ++ ys) ∧
      ∀ pre' : List Map, pre'.length = pre.length → Ev (fun k => laws_heldMappingS.l0 k (pre' ++ ys) m (pre'.length : Int)) (m + 5 * xs.length) := by
  induction xs with
  | nil =>
    intro pre m hl hm hb
    refine ⟨[], rfl, ?_, fun pre' hp => ?_⟩
    · refine ev_succ ?_; simp only [laws_markMappingS.l0]; exact ev_neg (by simp) (ev_eq (Ev.now _) (by simp))
    · refine ev_succ ?_; simp only [laws_heldMappingS.l0]; exact ev_neg (by simp) (ev_eq (Ev.now _) (by simp))
  | cons s t ih =>
    intro pre m hl hm hb
    simp only [List.length_append, List.length_cons] at hl hb
    have e1 : wrap64 (m + 1) = m + 1 := w64_in (by omega) (by omega)
    have e2 : wrap64 (m + 1 + 1) = m + 2 := by rw [w64_in (n := m + 1 + 1) (by omega) (by omega)]; omega
    have e3 : wrap64 (m + 2 + 1) = m + 3 := by rw [w64_in (n := m + 2 + 1) (by omega) (by omega)]; omega
    have e4 : wrap64 (m + 3 + 1) = m + 4 := by rw [w64_in (n := m + 3 + 1) (by omega) (by omega)]; omega
    have e5 : wrap64 (m + 4 + 1) = m + 5 := by rw [w64_in (n := m + 4 + 1) (by omega) (by omega)]; omega
    have u0 : IntKind.u64.wrap m = m := u64_in (by omega) (by omega)
    obtain ⟨ys, hy, h1, h2⟩ := ih (pre ++ [(⟨m, m + 1, m + 2, m + 3, m + 4⟩ : Map)]) (m + 5) (by simp; omega) (by omega) (by omega)
    refine ⟨⟨m, m + 1, m + 2, m + 3, m + 4⟩ :: ys, by simp [hy], ?_, fun pre' hp => ?_⟩
    · refine ev_succ ?_
      simp only [laws_markMappingS.l0]
      refine ev_pos (by simp; omega) (ev_pos (by omega) (ev_some (ev_some (ev_some (ev_some ?_)))))
      simp only [rd_T84, getD_mid, set_mid, e1, e2, e3, e4, e5, u0]
      rw [next_at pre (⟨m, m + 1, m + 2, m + 3, m + 4⟩ : Map) (by omega), snoc_cons pre t (⟨m, m + 1, m + 2, m + 3, m + 4⟩ : Map)]
      refine ev_eq h1 ?_
      simp only [List.length_cons, List.append_assoc, List.singleton_append, Prod.mk.injEq, and_true]; omega
    · refine ev_succ ?_
      simp only [laws_heldMappingS.l0]
      refine ev_pos (by simp; omega) (ev_pos (by omega) ?_)
      simp only [rd_T84, getD_mid, e1, e2, e3, e4, e5, u0]
      rw [next_at pre' (⟨m, m + 1, m + 2, m + 3, m + 4⟩ : Map) (by omega), snoc_cons pre' ys]
      refine ev_pos (by trivial) (ev_pos (by trivial) (ev_pos (by trivial) (ev_pos (by trivial) (ev_pos (by trivial) ?_))))
      refine ev_eq (h2 (pre' ++ [(⟨m, m + 1, m + 2, m + 3, m + 4⟩ : Map)]) (by simp [hp])) ?_
      simp only [List.length_cons]; omega
theorem markMapS_is (l : List Map) (hl : l.length ≤ 1048576) : ∃ ys, Ev (fun k => laws_markMappingS.f k l 1) (1 + 5 * l.length, ys) ∧ Ev (fun k => laws_heldMappingS.f k ys 1) (1 + 5 * l.length) := by
  obtain ⟨ys, _, h1, h2⟩ := markMap l [] 1 (by simpa using hl) (by omega) (by omega)
  exact ⟨ys, by simpa only [laws_markMappingS.f, List.nil_append, List.length_nil, nat0] using h1, by simpa only [laws_heldMappingS.f, List.nil_append, List.length_nil, nat0] using h2 [] rfl⟩
/-! ### both sides' test of mappings -/
/-- What holds at a mapping of a good list, at the place `i` of `n`, behind `y`. -/
def goodAt (n i : Int) (y x : Map) : Prop := x.f0 ≤ 4611686018427387904 ∧ 1 ≤ x.f3 ∧ x.f3 ≤ 255 ∧ (x.f4 = 0 ∨ x.f4 = 1) ∧
  ((x.f2 = 0 ∧ 1 ≤ x.f1 ∧ x.f1 ≤ 32) ∨ (x.f2 = 1 ∧ x.f1 = 0 ∧ i = n - 1)) ∧ (0 < i → IntKind.u64.wrap (y.f0 + IntKind.u64.wrap y.f1) ≤ x.f0)
set_option linter.unusedSimpArgs false in
set_option maxHeartbeats 4000000 in
theorem maps_step (l : List Map) (i : Int) (x y : Map) (h0 : 0 ≤ i) (h1 : i < (l.length : Int)) (h2 : (l.length : Int) ≤ 256) (hx : rd_T84 l i = x) (hy : rd_T84 l (wrap64 (i - 1)) = y) :
    ((∀ k, spec_l6MapsOK.l0 (k+1+1) l i = some false) ∧ (∀ k, impl_validMaps.l0 (k+1+1+1+1) l l (l.length : Int) i = some false)) ∨
    (goodAt (l.length : Int) i y x ∧ (∀ k, spec_l6MapsOK.l0 (k+1+1) l i = spec_l6MapsOK.l0 k l (wrap64 (i + 1))) ∧
      (∀ k, impl_validMaps.l0 (k+1+1+1+1) l l (l.length : Int) i = impl_validMaps.l0 k l l (l.length : Int) (wrap64 (i + 1)))) := by
  obtain ⟨f0, f1, f2, f3, f4⟩ := x
  have hn : wrap64 ((l.length : Int) - 1) = (l.length : Int) - 1 := w64_in (by omega) (by omega)
  have hi : wrap64 (i - 1) = i - 1 := w64_in (by omega) (by omega)
  rw [hi] at hy
  have q1 : 0 < i → 1 ≤ i := by omega
  have q2 : i - 1 < (l.length : Int) := by omega
  by_cases c0 : f0 > 4611686018427387904
  · exact .inl ⟨fun k => by simp [spec_l6MapsOK.l0, spec_l6MapsOK.j1, hx, h0, h1, c0], fun k => by simp [impl_validMaps.l0, impl_validMaps.j1, impl_validMaps.j2, impl_validMaps.j3, hx, h0, h1, c0]⟩
  by_cases c1 : f3 < 1
  · exact .inl ⟨fun k => by simp [spec_l6MapsOK.l0, spec_l6MapsOK.j1, hx, h0, h1, c0, c1], fun k => by simp [impl_validMaps.l0, impl_validMaps.j1, impl_validMaps.j2, impl_validMaps.j3, hx, h0, h1, c0, c1]⟩
  by_cases c2 : f3 > 255
  · exact .inl ⟨fun k => by simp [spec_l6MapsOK.l0, spec_l6MapsOK.j1, hx, h0, h1, c0, c1, c2], fun k => by simp [impl_validMaps.l0, impl_validMaps.j1, impl_validMaps.j2, impl_validMaps.j3, hx, h0, h1, c0, c1, c2]⟩
  by_cases c3 : f4 ≠ 0 ∧ f4 ≠ 1
  · exact .inl ⟨fun k => by simp [spec_l6MapsOK.l0, spec_l6MapsOK.j1, hx, h0, h1, c0, c1, c2, c3.1, c3.2], fun k => by simp [impl_validMaps.l0, impl_validMaps.j1, impl_validMaps.j2, impl_validMaps.j3, hx, h0, h1, c0, c1, c2, c3.1, c3.2]⟩
  have d4 : f4 = 0 ∨ f4 = 1 := by omega
  -- what both do behind the first tests
  have S : ∀ k, spec_l6MapsOK.l0 (k+1+1) l i = spec_l6MapsOK.j1 (k+1) l i false f0 f1 f2 f3 f4 := by
    intro k; rw [spec_l6MapsOK.l0]
    rcases d4 with rfl | rfl <;> simp [hx, h0, h1, c0, c1, c2]
  have I : ∀ k a b, impl_validMaps.j2 (k+1+1) l i a b l (l.length : Int) i f0 f1 f2 f3 f4 = if (a || b) = true then impl_validMaps.j3 (k+1) l i l (l.length : Int) i false f0 f1 f2 f3 f4 else some false := by
    intro k a b
    rcases d4 with rfl | rfl <;> cases a <;> cases b <;> simp [impl_validMaps.j2, impl_validMaps.j3, c0, c1, c2]
  have J : ∀ k, impl_validMaps.j3 (k+1) l i l (l.length : Int) i false f0 f1 f2 f3 f4 = if 0 < i ∧ f0 < IntKind.u64.wrap (y.f0 + IntKind.u64.wrap y.f1) then some false else impl_validMaps.l0 k l l (l.length : Int) (wrap64 (i + 1)) := by
    intro k
    by_cases p : 0 < i
    · simp [impl_validMaps.j3, hi, hy, p, q1 p, q2]
    · simp [impl_validMaps.j3, hi, hy, p]
  have fin : ∀ hd : (f2 = 0 ∧ 1 ≤ f1 ∧ f1 ≤ 32) ∨ (f2 = 1 ∧ f1 = 0 ∧ i = (l.length : Int) - 1),
      (∀ k, spec_l6MapsOK.j1 (k+1) l i false f0 f1 f2 f3 f4 = if 0 < i ∧ f0 < IntKind.u64.wrap (y.f0 + IntKind.u64.wrap y.f1) then some false else spec_l6MapsOK.l0 k l (wrap64 (i + 1))) ∧
      (∀ k, impl_validMaps.l0 (k+1+1+1+1) l l (l.length : Int) i = impl_validMaps.j3 (k+1) l i l (l.length : Int) i false f0 f1 f2 f3 f4) := by
    rintro (⟨rfl, a1, a2⟩ | ⟨rfl, rfl, a3⟩)
    · refine ⟨fun k => ?_, fun k => ?_⟩
      · by_cases p : 0 < i
        · simp [spec_l6MapsOK.j1, hi, hy, p, q1 p, q2, a1, a2]
        · simp [spec_l6MapsOK.j1, hi, hy, p, a1, a2]
      · simp [impl_validMaps.l0, impl_validMaps.j1, I, hx, h0, h1, a1, a2]
    · refine ⟨fun k => ?_, fun k => ?_⟩
      · by_cases p : 0 < i
        · simp [spec_l6MapsOK.j1, hn, hi, hy, p, q1 p, q2, eq_true a3]
        · simp [spec_l6MapsOK.j1, hn, hi, hy, p, eq_true a3]
      · have : (i == (l.length : Int) - 1) = true := by simpa using a3
        simp only [impl_validMaps.l0, hx, if_pos h0, if_pos h1, hn, impl_validMaps.j1, this, I]
        simp
  have bad : ¬ ((f2 = 0 ∧ 1 ≤ f1 ∧ f1 ≤ 32) ∨ (f2 = 1 ∧ f1 = 0 ∧ i = (l.length : Int) - 1)) →
      (∀ k, spec_l6MapsOK.j1 (k+1) l i false f0 f1 f2 f3 f4 = some false) ∧ (∀ k, impl_validMaps.l0 (k+1+1+1+1) l l (l.length : Int) i = some false) := by
    intro hd
    by_cases z : f2 = 0
    · subst z
      by_cases b1 : 1 ≤ f1
      · have b2 : ¬ f1 ≤ 32 := fun c => hd (.inl ⟨rfl, b1, c⟩)
        exact ⟨fun k => by simp [spec_l6MapsOK.j1, b1, b2], fun k => by simp [impl_validMaps.l0, impl_validMaps.j1, I, hx, h0, h1, b1, b2]⟩
      · exact ⟨fun k => by simp [spec_l6MapsOK.j1, b1], fun k => by simp [impl_validMaps.l0, impl_validMaps.j1, I, hx, h0, h1, b1]⟩
    · by_cases o : f2 = 1
      · subst o
        by_cases b1 : f1 = 0
        · have b2 : ¬ i = (l.length : Int) - 1 := fun c => hd (.inr ⟨rfl, b1, c⟩)
          subst b1
          exact ⟨fun k => by simp [spec_l6MapsOK.j1, hn, b2], fun k => by simp [impl_validMaps.l0, impl_validMaps.j1, I, hx, h0, h1, hn, (show (i == (l.length : Int) - 1) = false by simpa using b2)]⟩
        · exact ⟨fun k => by simp [spec_l6MapsOK.j1, b1], fun k => by simp [impl_validMaps.l0, impl_validMaps.j1, I, hx, h0, h1, b1]⟩
      · exact ⟨fun k => by simp [spec_l6MapsOK.j1, z, o], fun k => by simp [impl_validMaps.l0, impl_validMaps.j1, I, hx, h0, h1, z, o]⟩
  by_cases hd : (f2 = 0 ∧ 1 ≤ f1 ∧ f1 ≤ 32) ∨ (f2 = 1 ∧ f1 = 0 ∧ i = (l.length : Int) - 1)
  · obtain ⟨s1, i1⟩ := fin hd
    by_cases o : 0 < i ∧ f0 < IntKind.u64.wrap (y.f0 + IntKind.u64.wrap y.f1)
    · exact .inl ⟨fun k => by rw [S, s1, if_pos o], fun k => by rw [i1, J, if_pos o]⟩
    · refine .inr ⟨⟨by simpa using c0, by simp only []; omega, by simp only []; omega, d4, hd, fun p => ?_⟩, fun k => by rw [S, s1, if_neg o], fun k => by rw [i1, J, if_neg o]⟩
      simp only []
      rcases Int.lt_or_le f0 (IntKind.u64.wrap (y.f0 + IntKind.u64.wrap y.f1)) with c | c
      · exact absurd ⟨p, c⟩ o
      · exact c
  · obtain ⟨s1, i1⟩ := bad hd
    exact .inl ⟨fun k => by rw [S, s1], i1⟩
/-- A good rest, behind `y` at the place `i`. -/
def goodFrom (n : Int) : Int → Map → List Map → Prop
  | _, _, [] => True
  | i, y, x :: t => goodAt n i y x ∧ goodFrom n (i + 1) x t
theorem maps_loop (xs : List Map) : ∀ pre : List Map, ((pre ++ xs).length : Int) ≤ 256 →
    ∃ r : Bool, (r = true → goodFrom ((pre ++ xs).length : Int) (pre.length : Int) (rd_T84 (pre ++ xs) (wrap64 ((pre.length : Int) - 1))) xs) ∧
      Ev (fun k => spec_l6MapsOK.l0 k (pre ++ xs) (pre.length : Int)) r ∧ Ev (fun k => impl_validMaps.l0 k (pre ++ xs) (pre ++ xs) ((pre ++ xs).length : Int) (pre.length : Int)) r := by
  induction xs with
  | nil =>
    intro pre hl
    refine ⟨true, fun _ => trivial, ?_, ?_⟩
    · refine ev_succ ?_; simp only [spec_l6MapsOK.l0]; exact ev_neg (by simp) (Ev.now _)
    · refine ev_succ ?_; simp only [impl_validMaps.l0]; exact ev_neg (by simp) (Ev.now _)
  | cons x t ih =>
    intro pre hl
    have hl' := hl
    simp only [List.length_append, List.length_cons] at hl
    rcases maps_step (pre ++ x :: t) (pre.length : Int) x _ (by omega) (by simp; omega) hl' (rdM_mid pre t x) rfl with ⟨s, i⟩ | ⟨g, s, i⟩
    · exact ⟨false, by simp, ev_succ (ev_succ (by simp only [s]; exact Ev.now _)), ev_succ (ev_succ (ev_succ (ev_succ (by simp only [i]; exact Ev.now _))))⟩
    · obtain ⟨r, hr, e1, e2⟩ := ih (pre ++ [x]) (by simp; omega)
      have en : wrap64 ((pre.length : Int) + 1) = ((pre ++ [x]).length : Int) := next_at pre x (by omega)
      rw [← snoc_cons pre t x] at hr e1 e2
      refine ⟨r, fun h => ⟨g, ?_⟩, ev_succ (ev_succ ?_), ev_succ (ev_succ (ev_succ (ev_succ ?_)))⟩
      · have := hr h
        have el : wrap64 (((pre ++ [x]).length : Int) - 1) = (pre.length : Int) := by
          rw [show ((pre ++ [x]).length : Int) = (pre.length : Int) + 1 by simp, w64_in (by omega) (by omega)]; omega
        rw [el, rdM_mid] at this
        simpa using this
      · simp only [s, en]; exact e1
      · simp only [i, en]; exact e2
theorem maps_valid (l : List Map) : ∃ r : Bool, (r = true → l.length ≤ 256 ∧ goodFrom (l.length : Int) 0 (rd_T84 l (wrap64 (0 - 1))) l) ∧
    Ev (fun k => spec_l6MapsOK.f k l) r ∧ Ev (fun k => impl_validMaps.f k l) r := by
  unfold spec_l6MapsOK.f impl_validMaps.f
  by_cases big : (l.length : Int) > 256
  · exact ⟨false, by simp, ev_pos big (Ev.now _), ev_pos big (Ev.now _)⟩
  · obtain ⟨r, hr, e1, e2⟩ := maps_loop l [] (by simp; omega)
    simp only [List.nil_append, List.length_nil, nat0] at hr e1 e2
    exact ⟨r, fun h => ⟨by omega, hr h⟩, ev_neg big e1, ev_neg big e2⟩
theorem goodFrom_mem {n : Int} {l : List Map} : ∀ {i : Int} {y : Map}, goodFrom n i y l → ∀ x ∈ l, 1 ≤ x.f3 ∧ x.f3 ≤ 255 := by
  induction l with
  | nil => intro i y _ x hx; simp at hx
  | cons a t ih =>
    intro i y h x hx
    rcases List.mem_cons.1 hx with rfl | hx
    · exact ⟨h.1.2.1, h.1.2.2.1⟩
    · exact ih h.2 x hx

/-! ### ends -/
def mEnd (x : Map) : Int := x.f0 + x.f1 + x.f2
def fits (x : Map) : Prop := 0 ≤ x.f0 ∧ x.f0 ≤ 4611686018427387904 ∧ 0 ≤ x.f1 ∧ x.f1 ≤ 32 ∧ 0 ≤ x.f2 ∧ x.f2 ≤ 1
theorem goodFrom_fits {n : Int} {l : List Map} : ∀ {i : Int} {y : Map}, goodFrom n i y l → (∀ x ∈ l, 0 ≤ x.f0) → ∀ x ∈ l, fits x := by
  induction l with
  | nil => intro i y _ _ x hx; simp at hx
  | cons a t ih =>
    intro i y h h0 x hx
    rcases List.mem_cons.1 hx with rfl | hx
    · obtain ⟨g1, _, _, _, g5, _⟩ := h.1
      exact ⟨h0 _ (by simp), g1, by omega, by omega, by omega, by omega⟩
    · exact ih h.2 (fun z hz => h0 z (by simp [hz])) x hx
theorem ends_lt {n : Int} (t : List Map) : ∀ {i : Int} {y x : Map}, 0 ≤ i → goodFrom n i y (x :: t) → n = i + (t.length + 1) → (∀ z ∈ x :: t, fits z) → ∀ z ∈ t, mEnd x < mEnd z := by
  induction t with
  | nil => intro i y x _ _ _ _ z hz; simp at hz
  | cons a t ih =>
    intro i y x h0 h hn hf z hz
    simp only [List.length_cons] at hn
    have fx := hf x (by simp)
    have fa := hf a (by simp)
    have step : mEnd x < mEnd a := by
      obtain ⟨_, _, _, _, g5, _⟩ := h.1
      obtain ⟨_, _, _, _, g5', g6'⟩ := h.2.1
      have := g6' (by omega)
      unfold fits at fx fa
      rw [wr_u64, wr_u64] at this
      unfold mEnd; omega
    rcases List.mem_cons.1 hz with rfl | hz
    · exact step
    · have := ih (i := i + 1) (y := x) (x := a) (by omega) h.2 (by omega) (fun w hw => hf w (by simp at hw ⊢; exact .inr hw)) z hz
      omega
theorem split {n : Int} (a : Int) (xs : List Map) : ∀ {i : Int} {y : Map}, 0 ≤ i → goodFrom n i y xs → n = i + xs.length → (∀ z ∈ xs, fits z) →
    ∃ c, c ≤ xs.length ∧ (∀ j, (h : j < xs.length) → (mEnd xs[j] ≤ a ↔ j < c)) ∧ xs.filter (fun x => decide (mEnd x > a)) = xs.drop c := by
  induction xs with
  | nil => intro i y _ _ _ _; exact ⟨0, by simp, fun j h => by simp at h, by simp⟩
  | cons x t ih =>
    intro i y h0 h hn hf
    by_cases p : mEnd x ≤ a
    · obtain ⟨c, c1, c2, c3⟩ := ih (i := i + 1) (y := x) (by omega) h.2 (by simp only [List.length_cons] at hn; omega) (fun z hz => hf z (by simp [hz]))
      refine ⟨c + 1, by simp; omega, fun j hj => ?_, ?_⟩
      · cases j with
        | zero => simp [p]
        | succ j => simp only [List.getElem_cons_succ]; rw [c2 j (by simpa using hj)]; omega
      · rw [List.filter_cons_of_neg (by simp; omega), c3]; simp
    · have lt := ends_lt t h0 h (by simp only [List.length_cons] at hn; omega) hf
      refine ⟨0, by simp, fun j hj => ?_, ?_⟩
      · cases j with
        | zero => simp; omega
        | succ j =>
          have := lt (t[j]'(by simpa using hj)) (List.getElem_mem _)
          simp; omega
      · rw [List.drop_zero, List.filter_eq_self]
        intro z hz
        rcases List.mem_cons.1 hz with rfl | hz
        · simp; omega
        · have := lt z hz; simp; omega

theorem spec_loop (a : Int) (xs : List Map) : ∀ (pre acc : List Map), (pre ++ xs).length ≤ 1000000 → acc.length + xs.length ≤ 1000000 → (∀ x ∈ xs, fits x) →
    Ev (fun k => spec_AckMaps.l0 k (pre ++ xs) a acc (pre.length : Int)) (acc ++ xs.filter (fun x => decide (mEnd x > a)), 0) := by
  induction xs with
  | nil => intro pre acc hl _ _; refine ev_succ ?_; simp only [spec_AckMaps.l0]; exact ev_neg (by simp) (ev_eq (Ev.now _) (by simp))
  | cons x t ih =>
    intro pre acc hl ha hf
    have fx := hf x (by simp)
    simp only [List.length_append, List.length_cons] at hl ha
    have e : IntKind.u64.wrap (x.f0 + IntKind.u64.wrap (wrap64 (x.f1 + x.f2))) = mEnd x := by
      unfold fits at fx
      rw [w64_in (by omega) (by omega), wr_u64, wr_u64]; unfold mEnd; omega
    refine ev_succ ?_; simp only [spec_AckMaps.l0]
    refine ev_pos (by simp; omega) (ev_pos (by omega) ?_)
    simp only [rdM_mid, e]
    rw [next_at pre x (by omega), snoc_cons pre t x]
    by_cases c : mEnd x > a
    · refine ev_pos c (ev_pos (by omega) ?_)
      refine ev_eq (ih (pre ++ [x]) (acc ++ [x]) (by simp; omega) (by simp; omega) (fun z hz => hf z (by simp [hz]))) ?_
      rw [List.filter_cons_of_pos (by simpa using c)]; simp
    · refine ev_neg c ?_
      refine ev_eq (ih (pre ++ [x]) acc (by simp; omega) (by omega) (fun z hz => hf z (by simp [hz]))) ?_
      rw [List.filter_cons_of_neg (by simpa using c)]

theorem place_loop (l : List Map) (kk c : Int) (hl : (l.length : Int) ≤ 256) (hk : ∀ i : Int, 0 ≤ i → i < (l.length : Int) → ∃ e, impl_mapEnd.f (rd_T84 l i).f0 (rd_T84 l i).f1 (rd_T84 l i).f2 (rd_T84 l i).f3 (rd_T84 l i).f4 = some e ∧ (e < kk ↔ i < c)) (n : Nat) :
    ∀ lo hi : Int, 0 ≤ lo → lo ≤ c → c ≤ hi → hi ≤ (l.length : Int) → hi - lo ≤ n → Ev (fun k => impl_Mapping_uint64.l0 k l kk lo hi) c := by
  induction n with
  | zero =>
    intro lo hi h0 h1 h2 h3 hn
    refine ev_succ ?_; simp only [impl_Mapping_uint64.l0]
    exact ev_neg (by omega) (ev_eq (Ev.now _) (by omega))
  | succ n ih =>
    intro lo hi h0 h1 h2 h3 hn
    refine ev_succ ?_; simp only [impl_Mapping_uint64.l0]
    by_cases lt : lo < hi
    · refine ev_pos lt ?_
      have em : wrap64 (Int.tdiv (wrap64 (lo + hi)) 2) = (lo + hi) / 2 := by
        rw [w64_in (n := lo + hi) (by omega) (by omega), Int.tdiv_eq_ediv_of_nonneg (by omega), w64_in (by omega) (by omega)]
      simp only [em]
      obtain ⟨e, e1, e2⟩ := hk ((lo + hi) / 2) (by omega) (by omega)
      refine ev_pos (by omega) (ev_pos (by omega) ?_)
      rw [e1]
      refine ev_some ?_
      by_cases q : e < kk
      · refine ev_pos q ?_
        rw [w64_in (n := (lo + hi) / 2 + 1) (by omega) (by omega)]
        have := e2.1 q
        exact ih _ _ (by omega) (by omega) h2 h3 (by omega)
      · refine ev_neg q ?_
        have : ¬ (lo + hi) / 2 < c := fun g => q (e2.2 g)
        exact ih _ _ h0 h1 (by omega) (by omega) (by omega)
    · exact ev_neg lt (ev_eq (Ev.now _) (by omega))
theorem rdM_at (l : List Map) (j : Nat) (h : j < l.length) : rd_T84 l (j : Int) = l[j] := by simp [rd_T84, List.getD, h]

/-- What both answer. -/
theorem ack_both (l : List Map) (a : Int) (ha : 0 ≤ a ∧ a ≤ 18446744073709551615) (hpos : ∀ x ∈ l, 0 ≤ x.f0) : ∃ R : List Map × Int, R.1.length ≤ 256 ∧ Ev (fun k => spec_AckMaps.f k l a) R ∧ Ev (fun k => impl_AckMaps.f k l a) R := by
  obtain ⟨r, hr, e1, e2⟩ := maps_valid l
  unfold spec_AckMaps.f impl_AckMaps.f
  cases r with
  | false => exact ⟨([], 1), by simp, ev_bind e1 (ev_neg (by simp) (Ev.now _)), ev_bind e2 (ev_neg (by simp) (Ev.now _))⟩
  | true =>
    obtain ⟨hlen, hg⟩ := hr rfl
    have hf := goodFrom_fits hg hpos
    obtain ⟨c, c1, c2, c3⟩ := split a l (by omega) hg (by omega) hf
    refine ⟨(l.drop c, 0), by simp; omega, ev_bind e1 (ev_pos (by trivial) ?_), ev_bind e2 (ev_pos (by trivial) ?_)⟩
    · have := spec_loop a l [] [] (by simp; omega) (by simp; omega) hf
      rw [c3] at this
      simpa only [List.nil_append, List.length_nil, nat0] using this
    · have acked : Ev (fun k => impl_ackedMaps.f k l a) (c : Int) := by
        unfold impl_ackedMaps.f
        by_cases top : a = 18446744073709551615
        · refine ev_pos top (ev_eq (Ev.now _) ?_)
          by_cases z : l.length = 0
          · omega
          · have fl := hf (l[l.length - 1]'(by omega)) (List.getElem_mem _)
            have := (c2 (l.length - 1) (by omega)).1 (by unfold fits at fl; unfold mEnd; omega)
            omega
        · refine ev_neg top (ev_bind (a := (c : Int)) ?_ (Ev.now _))
          unfold impl_Mapping_uint64.f
          have ek : IntKind.u64.wrap (a + 1) = a + 1 := by rw [wr_u64]; omega
          rw [ek]
          refine place_loop l (a + 1) c (by omega) (fun i h0 h1 => ?_) l.length 0 _ (by omega) (by omega) (by omega) (by omega) (by omega)
          obtain ⟨j, rfl⟩ := Int.eq_ofNat_of_zero_le h0
          have hj : j < l.length := by omega
          rw [rdM_at l j hj]
          have fj := hf _ (List.getElem_mem hj)
          refine ⟨mEnd l[j], ?_, ?_⟩
          · simp only [impl_mapEnd.f, wr_u64, Option.some.injEq]
            unfold fits at fj; unfold mEnd; omega
          · have := c2 j hj
            omega
      refine ev_bind acked (ev_pos (by omega) (ev_pos (by omega) (ev_some (ev_pos (by simp; omega) (ev_eq (Ev.now _) (by simp))))))

theorem FnExactAckMaps : laws_FnExactAckMaps.Pure := by
  intro l0 a hlen hgood hs
  refine Ev.rounds ?_
  unfold laws_FnExactAckMaps.f
  rw [szMapS_is l0 hlen]
  refine ev_some ?_
  by_cases big : l0.length ≤ 1048576
  · rw [if_pos big]
    refine ev_neg (by omega) ?_
    have hpos : ∀ x ∈ l0.map toI, 0 ≤ x.f0 := by
      intro x hx
      obtain ⟨y, hy, rfl⟩ := List.mem_map.1 hx
      exact (bounds_u64 (hgood y hy).1).1
    obtain ⟨R, hR, e1, e2⟩ := ack_both (l0.map toI) a (bounds_u64 hs) hpos
    have hml : (l0.map toI).length ≤ 1048576 := by simpa using big
    refine ev_bind (toMapS_is l0 big) (ev_bind e1 (ev_bind (toMapS_is l0 big) (ev_bind e2 (ev_bind (eqMapS_refl R.1 (by omega)) ?_))))
    refine ev_pos (by trivial) ?_
    rw [bne_self_eq_false]
    refine ev_succ ?_; simp only [laws_FnExactAckMaps.j0]
    refine ev_neg (by decide) (ev_bind (toMapS_is l0 big) (ev_bind (eqMapS_refl _ (by omega)) (ev_pos (by trivial) ?_)))
    obtain ⟨ys, m1, _⟩ := markMapS_is (l0.map toI) hml
    refine ev_bind m1 (ev_neg (by simp only []; omega) (ev_bind (eqMapS_refl R.1 (by omega)) (ev_pos (by trivial) ?_)))
    rw [bne_self_eq_false]
    refine ev_succ ?_; simp only [laws_FnExactAckMaps.j1]
    obtain ⟨zs, m2, m3⟩ := markMapS_is R.1 (by omega)
    refine ev_neg (by decide) (ev_bind m2 (ev_bind m3 (ev_neg (by omega) (ev_pos rfl ?_))))
    exact ev_bind (toMapS_is l0 big) (ev_bind e2 (ev_bind (eqMapS_refl R.1 (by omega)) (ev_pos (by trivial) (ev_pos rfl (Ev.now _)))))
  · rw [if_neg big]
    exact ev_pos (by omega) (Ev.now _)

end Go.Proofs.Ytakeenidhkhmiaa.Pure
