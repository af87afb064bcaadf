/- For every list of mappings and every mask, the program's QueueMaps is the reference's; it writes into no argument and its answer is its own memory. No condition. -/
import Derived.Test.YtakeenidhkhmiaaPFnExactQueueMapsx6
import Derived.Test.YtakeenidhkhmiaaEvB
namespace Go.Proofs.Ytakeenidhkhmiaa.Pure
open Go.RowKit Go.Proofs.Ytakeenidhkhmiaa.PFnExactQueueMaps Go.Proofs.YtakeenidhkhmiaaW.PrintWords Go.Proofs.YtakeenidhkhmiaaW.PrintLast Go.Proofs.Ytakeenidhkhmiaa.Base
abbrev Map := S84
abbrev LMap := S109
/-! ### the law's own helpers at mappings -/
def toI (x : LMap) : Map := ⟨x.f0, x.f1, x.f2, x.f3, x.f4⟩
theorem rdM_mid (pre xs : List Map) (x : Map) : rd_T84 (pre ++ x :: xs) (pre.length : Int) = x := by simp [rd_T84]
theorem toMapS_loop (xs : List LMap) : ∀ (pre : List LMap) (ys : List Map), ys.length = xs.length → (pre ++ xs).length ≤ 1048576 →
    Ev (fun k => laws_toMappingS.l0 k (pre ++ xs) (pre.map toI ++ ys) (pre.length : Int)) ((pre ++ xs).map toI) := by
  induction xs with
  | nil =>
    intro pre ys hy hl
    obtain rfl : ys = [] := List.eq_nil_of_length_eq_zero hy
    refine ev_succ ?_; simp only [laws_toMappingS.l0]; exact ev_neg (by simp) (ev_eq (Ev.now _) (by simp))
  | cons s t ih =>
    intro pre ys hy hl
    obtain ⟨u, us, rfl⟩ : ∃ u us, ys = u :: us := by cases ys with | nil => simp at hy | cons u us => exact ⟨u, us, rfl⟩
    simp only [List.length_append, List.length_cons] at hl hy
    have hs : rd_T109 (pre ++ s :: t) (pre.length : Int) = s := by simp [rd_T109]
    refine ev_succ ?_
    simp only [laws_toMappingS.l0, laws_toMapping.f]
    refine ev_pos (by simp; omega) (ev_pos (by omega) (ev_some (ev_pos (by simp; omega) ?_)))
    rw [hs, next_at pre s (by omega), snoc_cons pre t s]
    have e : (pre.map toI ++ u :: us).set (pre.length : Int).toNat (⟨s.f0, s.f1, s.f2, s.f3, s.f4⟩ : Map) = (pre ++ [s]).map toI ++ us := by
      have := set_mid (pre.map toI) us u (toI s)
      rw [List.length_map] at this
      rw [show (⟨s.f0, s.f1, s.f2, s.f3, s.f4⟩ : Map) = toI s from rfl, this]; simp
    rw [e]
    exact ih (pre ++ [s]) us (by omega) (by simp; omega)
theorem toMapS_is (l : List LMap) (hl : l.length ≤ 1048576) : Ev (fun k => laws_toMappingS.f k l) (l.map toI) := by
  unfold laws_toMappingS.f
  refine ev_pos (by omega) (ev_pos (by omega) ?_)
  exact toMapS_loop l [] _ (by simp) (by simpa using hl)
theorem eqMapS_loop (xs : List Map) : ∀ pre : List Map, (pre ++ xs).length ≤ 4611686018427387904 → Ev (fun k => laws_eqMappingS.l0 k (pre ++ xs) (pre ++ xs) (pre.length : Int)) true := by
  induction xs with
  | nil => intro pre hl; refine ev_succ ?_; simp only [laws_eqMappingS.l0]; exact ev_neg (by simp) (Ev.now _)
  | cons s t ih =>
    intro pre hl
    simp only [List.length_append, List.length_cons] at hl
    refine ev_succ ?_
    simp only [laws_eqMappingS.l0]
    refine ev_pos (by simp; omega) (ev_pos (by omega) (ev_pos (by simp; omega) ?_))
    refine ev_bind (a := true) (by simp only [laws_eqMapping.f]; exact Ev.now _) ?_
    refine ev_pos (by trivial) ?_
    rw [next_at pre s (by omega), snoc_cons pre t s]
    exact ih (pre ++ [s]) (by simp; omega)
theorem eqMapS_refl (l : List Map) (hl : l.length ≤ 4611686018427387904) : Ev (fun k => laws_eqMappingS.f k l l) true := by
  unfold laws_eqMappingS.f
  refine ev_pos (by trivial) ?_
  exact eqMapS_loop l [] (by simpa using hl)
theorem szMapS_is (l : List LMap) (h : l.length ≤ maxLen) : laws_szMappingS.f l 1048576 = some (if l.length ≤ 1048576 then 1048576 - (l.length : Int) else -1) := by
  unfold maxLen at h
  unfold laws_szMappingS.f
  rw [w64_in (n := 1048576 - (l.length : Int)) (by omega) (by omega)]
  by_cases c : l.length ≤ 1048576
  · rw [if_neg (by omega), if_pos c]
  · rw [if_pos (by omega), if_neg c]
theorem markMap (xs : List Map) : ∀ (pre : List Map) (m : Int), (pre ++ xs).length ≤ 1048576 → 1 ≤ m → m + 5 * xs.length ≤ 1000000000 →
    ∃ ys, ys.length = xs.length ∧ Ev (fun k => laws_markMappingS.l0 k (pre ++ xs) m (pre.length : Int)) (m + 5 * xs.length, pre ++ ys) ∧
      ∀ pre' : List Map, pre'.length = pre.length → Ev (fun k => laws_heldMappingS.l0 k (pre' ++ ys) m (pre'.length : Int)) (m + 5 * xs.length) := by
  induction xs with
  | nil =>
    intro pre m hl hm hb
    refine ⟨[], rfl, ?_, fun pre' hp => ?_⟩
    · refine ev_succ ?_; simp only [laws_markMappingS.l0]; exact ev_neg (by simp) (ev_eq (Ev.now _) (by simp))
    · refine ev_succ ?_; simp only [laws_heldMappingS.l0]; exact ev_neg (by simp) (ev_eq (Ev.now _) (by simp))
  | cons s t ih =>
    intro pre m hl hm hb
    simp only [List.length_append, List.length_cons] at hl hb
    have e1 : wrap64 (m + 1) = m + 1 := w64_in (by omega) (by omega)
    have e2 : wrap64 (m + 1 + 1) = m + 2 := by rw [w64_in (n := m + 1 + 1) (by omega) (by omega)]; omega
    have e3 : wrap64 (m + 2 + 1) = m + 3 := by rw [w64_in (n := m + 2 + 1) (by omega) (by omega)]; omega
    have e4 : wrap64 (m + 3 + 1) = m + 4 := by rw [w64_in (n := m + 3 + 1) (by omega) (by omega)]; omega
    have e5 : wrap64 (m + 4 + 1) = m + 5 := by rw [w64_in (n := m + 4 + 1) (by omega) (by omega)]; omega
    have u0 : IntKind.u64.wrap m = m := u64_in (by omega) (by omega)
    obtain ⟨ys, hy, h1, h2⟩ := ih (pre ++ [(⟨m, m + 1, m + 2, m + 3, m + 4⟩ : Map)]) (m + 5) (by simp; omega) (by omega) (by omega)
    refine ⟨⟨m, m + 1, m + 2, m + 3, m + 4⟩ :: ys, by simp [hy], ?_, fun pre' hp => ?_⟩
    · refine ev_succ ?_
      simp only [laws_markMappingS.l0]
      refine ev_pos (by simp; omega) (ev_pos (by omega) (ev_some (ev_some (ev_some (ev_some ?_)))))
      simp only [rd_T84, getD_mid, set_mid, e1, e2, e3, e4, e5, u0]
      rw [next_at pre (⟨m, m + 1, m + 2, m + 3, m + 4⟩ : Map) (by omega), snoc_cons pre t (⟨m, m + 1, m + 2, m + 3, m + 4⟩ : Map)]
      refine ev_eq h1 ?_
      simp only [List.length_cons, List.append_assoc, List.singleton_append, Prod.mk.injEq, and_true]; omega
    · refine ev_succ ?_
      simp only [laws_heldMappingS.l0]
      refine ev_pos (by simp; omega) (ev_pos (by omega) ?_)
      simp only [rd_T84, getD_mid, e1, e2, e3, e4, e5, u0]
      rw [next_at pre' (⟨m, m + 1, m + 2, m + 3, m + 4⟩ : Map) (by omega), snoc_cons pre' ys]
      refine ev_pos (by trivial) (ev_pos (by trivial) (ev_pos (by trivial) (ev_pos (by trivial) (ev_pos (by trivial) ?_))))
      refine ev_eq (h2 (pre' ++ [(⟨m, m + 1, m + 2, m + 3, m + 4⟩ : Map)]) (by simp [hp])) ?_
      simp only [List.length_cons]; omega
theorem markMapS_is (l : List Map) (hl : l.length ≤ 1048576) : ∃ ys, Ev (fun k => laws_markMappingS.f k l 1) (1 + 5 * l.length, ys) ∧ Ev (fun k => laws_heldMappingS.f k ys 1) (1 + 5 * l.length) := by
  obtain ⟨ys, _, h1, h2⟩ := markMap l [] 1 (by simpa using hl) (by omega) (by omega)
  exact ⟨ys, by simpa only [laws_markMappingS.f, List.nil_append, List.length_nil, nat0] using h1, by simpa only [laws_heldMappingS.f, List.nil_append, List.length_nil, nat0] using h2 [] rfl⟩
/-! ### both sides' test of mappings -/
/-- What holds at a mapping of a good list, at the place `i` of `n`, behind `y`. -/
def goodAt (n i : Int) (y x : Map) : Prop := x.f0 ≤ 4611686018427387904 ∧ 1 ≤ x.f3 ∧ x.f3 ≤ 255 ∧ (x.f4 = 0 ∨ x.f4 = 1) ∧
  ((x.f2 = 0 ∧ 1 ≤ x.f1 ∧ x.f1 ≤ 32) ∨ (x.f2 = 1 ∧ x.f1 = 0 ∧ i = n - 1)) ∧ (0 < i → IntKind.u64.wrap (y.f0 + IntKind.u64.wrap y.f1) ≤ x.f0)
set_option linter.unusedSimpArgs false in
set_option maxHeartbeats 4000000 in
theorem maps_step (l : List Map) (i : Int) (x y : Map) (h0 : 0 ≤ i) (h1 : i < (l.length : Int)) (h2 : (l.length : Int) ≤ 256) (hx : rd_T84 l i = x) (hy : rd_T84 l (wrap64 (i - 1)) = y) :
    ((∀ k, spec_l6MapsOK.l0 (k+1+1) l i = some false) ∧ (∀ k, impl_validMaps.l0 (k+1+1+1+1) l l (l.length : Int) i = some false)) ∨
    (goodAt (l.length : Int) i y x ∧ (∀ k, spec_l6MapsOK.l0 (k+1+1) l i = spec_l6MapsOK.l0 k l (wrap64 (i + 1))) ∧
      (∀ k, impl_validMaps.l0 (k+1+1+1+1) l l (l.length : Int) i = impl_validMaps.l0 k l l (l.length : Int) (wrap64 (i + 1)))) := by
  obtain ⟨f0, f1, f2, f3, f4⟩ := x
  have hn : wrap64 ((l.length : Int) - 1) = (l.length : Int) - 1 := w64_in (by omega) (by omega)
  have hi : wrap64 (i - 1) = i - 1 := w64_in (by omega) (by omega)
  rw [hi] at hy
  have q1 : 0 < i → 1 ≤ i := by omega
  have q2 : i - 1 < (l.length : Int) := by omega
  by_cases c0 : f0 > 4611686018427387904
  · exact .inl ⟨fun k => by simp [spec_l6MapsOK.l0, spec_l6MapsOK.j1, hx, h0, h1, c0], fun k => by simp [impl_validMaps.l0, impl_validMaps.j1, impl_validMaps.j2, impl_validMaps.j3, hx, h0, h1, c0]⟩
  by_cases c1 : f3 < 1
  · exact .inl ⟨fun k => by simp [spec_l6MapsOK.l0, spec_l6MapsOK.j1, hx, h0, h1, c0, c1], fun k => by simp [impl_validMaps.l0, impl_validMaps.j1, impl_validMaps.j2, impl_validMaps.j3, hx, h0, h1, c0, c1]⟩
  by_cases c2 : f3 > 255
  · exact .inl ⟨fun k => by simp [spec_l6MapsOK.l0, spec_l6MapsOK.j1, hx, h0, h1, c0, c1, c2], fun k => by simp [impl_validMaps.l0, impl_validMaps.j1, impl_validMaps.j2, impl_validMaps.j3, hx, h0, h1, c0, c1, c2]⟩
  by_cases c3 : f4 ≠ 0 ∧ f4 ≠ 1
  · exact .inl ⟨fun k => by simp [spec_l6MapsOK.l0, spec_l6MapsOK.j1, hx, h0, h1, c0, c1, c2, c3.1, c3.2], fun k => by simp [impl_validMaps.l0, impl_validMaps.j1, impl_validMaps.j2, impl_validMaps.j3, hx, h0, h1, c0, c1, c2, c3.1, c3.2]⟩
  have d4 : f4 = 0 ∨ f4 = 1 := by omega
  -- what both do behind the first tests
  have S : ∀ k, spec_l6MapsOK.l0 (k+1+1) l i = spec_l6MapsOK.j1 (k+1) l i false f0 f1 f2 f3 f4 := by
    intro k; rw [spec_l6MapsOK.l0]
    rcases d4 with rfl | rfl <;> simp [hx, h0, h1, c0, c1, c2]
  have I : ∀ k a b, impl_validMaps.j2 (k+1+1) l i a b l (l.length : Int) i f0 f1 f2 f3 f4 = if (a || b) = true then impl_validMaps.j3 (k+1) l i l (l.length : Int) i false f0 f1 f2 f3 f4 else some false := by
    intro k a b
    rcases d4 with rfl | rfl <;> cases a <;> cases b <;> simp [impl_validMaps.j2, impl_validMaps.j3, c0, c1, c2]
  have J : ∀ k, impl_validMaps.j3 (k+1) l i l (l.length : Int) i false f0 f1 f2 f3 f4 = if 0 < i ∧ f0 < IntKind.u64.wrap (y.f0 + IntKind.u64.wrap y.f1) then some false else impl_validMaps.l0 k l l (l.length : Int) (wrap64 (i + 1)) := by
    intro k
    by_cases p : 0 < i
    · simp [impl_validMaps.j3, hi, hy, p, q1 p, q2]
    · simp [impl_validMaps.j3, hi, hy, p]
  have fin : ∀ hd : (f2 = 0 ∧ 1 ≤ f1 ∧ f1 ≤ 32) ∨ (f2 = 1 ∧ f1 = 0 ∧ i = (l.length : Int) - 1),
      (∀ k, spec_l6MapsOK.j1 (k+1) l i false f0 f1 f2 f3 f4 = if 0 < i ∧ f0 < IntKind.u64.wrap (y.f0 + IntKind.u64.wrap y.f1) then some false else spec_l6MapsOK.l0 k l (wrap64 (i + 1))) ∧
      (∀ k, impl_validMaps.l0 (k+1+1+1+1) l l (l.length : Int) i = impl_validMaps.j3 (k+1) l i l (l.length : Int) i false f0 f1 f2 f3 f4) := by
    rintro (⟨rfl, a1, a2⟩ | ⟨rfl, rfl, a3⟩)
    · refine ⟨fun k => ?_, fun k => ?_⟩
      · by_cases p : 0 < i
        · simp [spec_l6MapsOK.j1, hi, hy, p, q1 p, q2, a1, a2]
        · simp [spec_l6MapsOK.j1, hi, hy, p, a1, a2]
      · simp [impl_validMaps.l0, impl_validMaps.j1, I, hx, h0, h1, a1, a2]
    · refine ⟨fun k => ?_, fun k => ?_⟩
      · by_cases p : 0 < i
        · simp [spec_l6MapsOK.j1, hn, hi, hy, p, q1 p, q2, eq_true a3]
        · simp [spec_l6MapsOK.j1, hn, hi, hy, p, eq_true a3]
      · have : (i == (l.length : Int) - 1) = true := by simpa using a3
        simp only [impl_validMaps.l0, hx, if_pos h0, if_pos h1, hn, impl_validMaps.j1, this, I]
        simp
  have bad : ¬ ((f2 = 0 ∧ 1 ≤ f1 ∧ f1 ≤ 32) ∨ (f2 = 1 ∧ f1 = 0 ∧ i = (l.length : Int) - 1)) →
      (∀ k, spec_l6MapsOK.j1 (k+1) l i false f0 f1 f2 f3 f4 = some false) ∧ (∀ k, impl_validMaps.l0 (k+1+1+1+1) l l (l.length : Int) i = some false) := by
    intro hd
    by_cases z : f2 = 0
    · subst z
      by_cases b1 : 1 ≤ f1
      · have b2 : ¬ f1 ≤ 32 := fun c => hd (.inl ⟨rfl, b1, c⟩)
        exact ⟨fun k => by simp [spec_l6MapsOK.j1, b1, b2], fun k => by simp [impl_validMaps.l0, impl_validMaps.j1, I, hx, h0, h1, b1, b2]⟩
      · exact ⟨fun k => by simp [spec_l6MapsOK.j1, b1], fun k => by simp [impl_validMaps.l0, impl_validMaps.j1, I, hx, h0, h1, b1]⟩
    · by_cases o : f2 = 1
      · subst o
        by_cases b1 : f1 = 0
        · have b2 : ¬ i = (l.length : Int) - 1 := fun c => hd (.inr ⟨rfl, b1, c⟩)
          subst b1
          exact ⟨fun k => by simp [spec_l6MapsOK.j1, hn, b2], fun k => by simp [impl_validMaps.l0, impl_validMaps.j1, I, hx, h0, h1, hn, (show (i == (l.length : Int) - 1) = false by simpa using b2)]⟩
        · exact ⟨fun k => by simp [spec_l6MapsOK.j1, b1], fun k => by simp [impl_validMaps.l0, impl_validMaps.j1, I, hx, h0, h1, b1]⟩
      · exact ⟨fun k => by simp [spec_l6MapsOK.j1, z, o], fun k => by simp [impl_validMaps.l0, impl_validMaps.j1, I, hx, h0, h1, z, o]⟩
  by_cases hd : (f2 = 0 ∧ 1 ≤ f1 ∧ f1 ≤ 32) ∨ (f2 = 1 ∧ f1 = 0 ∧ i = (l.length : Int) - 1)
  · obtain ⟨s1, i1⟩ := fin hd
    by_cases o : 0 < i ∧ f0 < IntKind.u64.wrap (y.f0 + IntKind.u64.wrap y.f1)
    · exact .inl ⟨fun k => by rw [S, s1, if_pos o], fun k => by rw [i1, J, if_pos o]⟩
    · refine .inr ⟨⟨by simpa using c0, by simp only []; omega, by simp only []; omega, d4, hd, fun p => ?_⟩, fun k => by rw [S, s1, if_neg o], fun k => by rw [i1, J, if_neg o]⟩
      simp only []
      rcases Int.lt_or_le f0 (IntKind.u64.wrap (y.f0 + IntKind.u64.wrap y.f1)) with c | c
      · exact absurd ⟨p, c⟩ o
      · exact c
  · obtain ⟨s1, i1⟩ := bad hd
    exact .inl ⟨fun k => by rw [S, s1], i1⟩
/-- A good rest, behind `y` at the place `i`. -/
def goodFrom (n : Int) : Int → Map → List Map → Prop
  | _, _, [] => True
  | i, y, x :: t => goodAt n i y x ∧ goodFrom n (i + 1) x t
theorem maps_loop (xs : List Map) : ∀ pre : List Map, ((pre ++ xs).length : Int) ≤ 256 →
    ∃ r : Bool, (r = true → goodFrom ((pre ++ xs).length : Int) (pre.length : Int) (rd_T84 (pre ++ xs) (wrap64 ((pre.length : Int) - 1))) xs) ∧
      Ev (fun k => spec_l6MapsOK.l0 k (pre ++ xs) (pre.length : Int)) r ∧ Ev (fun k => impl_validMaps.l0 k (pre ++ xs) (pre ++ xs) ((pre ++ xs).length : Int) (pre.length : Int)) r := by
  induction xs with
  | nil =>
    intro pre hl
    refine ⟨true, fun _ => trivial, ?_, ?_⟩
    · refine ev_succ ?_; simp only [spec_l6MapsOK.l0]; exact ev_neg (by simp) (Ev.now _)
    · refine ev_succ ?_; simp only [impl_validMaps.l0]; exact ev_neg (by simp) (Ev.now _)
  | cons x t ih =>
    intro pre hl
    have hl' := hl
    simp only [List.length_append, List.length_cons] at hl
    rcases maps_step (pre ++ x :: t) (pre.length : Int) x _ (by omega) (by simp; omega) hl' (rdM_mid pre t x) rfl with ⟨s, i⟩ | ⟨g, s, i⟩
    · exact ⟨false, by simp, ev_succ (ev_succ (by simp only [s]; exact Ev.now _)), ev_succ (ev_succ (ev_succ (ev_succ (by simp only [i]; exact Ev.now _))))⟩
    · obtain ⟨r, hr, e1, e2⟩ := ih (pre ++ [x]) (by simp; omega)
      have en : wrap64 ((pre.length : Int) + 1) = ((pre ++ [x]).length : Int) := next_at pre x (by omega)
      rw [← snoc_cons pre t x] at hr e1 e2
      refine ⟨r, fun h => ⟨g, ?_⟩, ev_succ (ev_succ ?_), ev_succ (ev_succ (ev_succ (ev_succ ?_)))⟩
      · have := hr h
        have el : wrap64 (((pre ++ [x]).length : Int) - 1) = (pre.length : Int) := by
          rw [show ((pre ++ [x]).length : Int) = (pre.length : Int) + 1 by simp, w64_in (by omega) (by omega)]; omega
        rw [el, rdM_mid] at this
        simpa using this
      · simp only [s, en]; exact e1
      · simp only [i, en]; exact e2
theorem maps_valid (l : List Map) : ∃ r : Bool, (r = true → l.length ≤ 256 ∧ goodFrom (l.length : Int) 0 (rd_T84 l (wrap64 (0 - 1))) l) ∧
    Ev (fun k => spec_l6MapsOK.f k l) r ∧ Ev (fun k => impl_validMaps.f k l) r := by
  unfold spec_l6MapsOK.f impl_validMaps.f
  by_cases big : (l.length : Int) > 256
  · exact ⟨false, by simp, ev_pos big (Ev.now _), ev_pos big (Ev.now _)⟩
  · obtain ⟨r, hr, e1, e2⟩ := maps_loop l [] (by simp; omega)
    simp only [List.nil_append, List.length_nil, nat0] at hr e1 e2
    exact ⟨r, fun h => ⟨by omega, hr h⟩, ev_neg big e1, ev_neg big e2⟩
theorem goodFrom_mem {n : Int} {l : List Map} : ∀ {i : Int} {y : Map}, goodFrom n i y l → ∀ x ∈ l, 1 ≤ x.f3 ∧ x.f3 ≤ 255 := by
  induction l with
  | nil => intro i y _ x hx; simp at hx
  | cons a t ih =>
    intro i y h x hx
    rcases List.mem_cons.1 hx with rfl | hx
    · exact ⟨h.1.2.1, h.1.2.2.1⟩
    · exact ih h.2 x hx

/-! ### bits -/
def bitAt (v : Int) (p : Int) : Bool := (v / 2 ^ p.toNat) % 2 == 1
theorem bit_loop (n : Nat) : ∀ (v p : Int) (i : Int), 0 ≤ v → v ≤ 255 → 0 ≤ i → i + n = p → p ≤ 8 → Ev (fun k => spec_l6Bit.l0 k v p i) ((v / 2 ^ n) % 2 == 1) := by
  induction n with
  | zero =>
    intro v p i h0 h1 hi hp h8
    refine ev_succ ?_; simp only [spec_l6Bit.l0]
    refine ev_neg (by omega) (ev_eq (Ev.now _) ?_)
    have : Int.tmod v 2 = v % 2 := Int.tmod_eq_emod_of_nonneg h0
    simp [this]
  | succ n ih =>
    intro v p i h0 h1 hi hp h8
    refine ev_succ ?_; simp only [spec_l6Bit.l0]
    refine ev_pos (by omega) ?_
    have e : Int.tdiv v 2 = v / 2 := Int.tdiv_eq_ediv_of_nonneg h0
    rw [e, w64_in (n := v / 2) (by omega) (by omega), w64_in (n := i + 1) (by omega) (by omega)]
    refine ev_eq (ih (v / 2) p (i + 1) (by omega) (by omega) (by omega) (by omega) h8) ?_
    rw [show v / 2 / 2 ^ n = v / 2 ^ (n + 1) by rw [Int.ediv_ediv_of_nonneg (by omega), Int.pow_succ, Int.mul_comm]]
theorem bit_is (v p : Int) (h0 : 0 ≤ v) (h1 : v ≤ 255) (hp : 0 ≤ p) (h8 : p ≤ 8) : Ev (fun k => spec_l6Bit.f k v p) (bitAt v p) := by
  unfold spec_l6Bit.f bitAt
  exact bit_loop p.toNat v p 0 h0 h1 (by omega) (by omega) h8

theorem bitAt_nat (n p : Nat) : bitAt (n : Int) (p : Int) = n.testBit p := by
  unfold bitAt
  rw [Nat.testBit_eq_decide_div_mod_eq, Int.toNat_natCast]
  have : ((n : Int) / 2 ^ p) % 2 = ((n / 2 ^ p % 2 : Nat) : Int) := by simp
  rw [this]
  have h : n / 2 ^ p % 2 < 2 := Nat.mod_lt _ (by omega)
  by_cases c : n / 2 ^ p % 2 = 1
  · simp [c]
  · have : n / 2 ^ p % 2 = 0 := by omega
    simp [this]
theorem and_nat (n m : Nat) (hn : n < 256) (hm : m < 256) : Go.bits .and .i64 (n : Int) (m : Int) = ((n &&& m : Nat) : Int) := by
  have hx : n &&& m ≤ n := Nat.and_le_left
  have h1 : (BitVec.ofInt 64 (n : Int)).toNat = n := by
    rw [BitVec.ofInt_natCast, BitVec.toNat_ofNat]; exact Nat.mod_eq_of_lt (by omega)
  have h2 : (BitVec.ofInt 64 (m : Int)).toNat = m := by
    rw [BitVec.ofInt_natCast, BitVec.toNat_ofNat]; exact Nat.mod_eq_of_lt (by omega)
  show IntKind.i64.wrap ((BitVec.ofInt 64 (n : Int) &&& BitVec.ofInt 64 (m : Int)).toNat : Int) = _
  rw [BitVec.toNat_and, h1, h2]
  simp only [IntKind.wrap, IntKind.bits, IntKind.signed]
  have : ((n &&& m : Nat) : Int) < 256 := by omega
  simp
  omega
/-- Does any of the bits from `p` on (so many) lie in both? -/
def anyBit (c a : Int) : Nat → Int → Bool → Bool
  | 0, _, s => s
  | n + 1, p, s => anyBit c a n (p + 1) (s || (bitAt c p && bitAt a p))
theorem any_is (c a : Int) (hc : 0 ≤ c) (hc' : c ≤ 255) (ha : 0 ≤ a) (ha' : a ≤ 255) : anyBit c a 8 0 false = !decide (Go.bits .and .i64 c a = 0) := by
  obtain ⟨n, rfl⟩ := Int.eq_ofNat_of_zero_le hc
  obtain ⟨m, rfl⟩ := Int.eq_ofNat_of_zero_le ha
  rw [and_nat n m (by omega) (by omega)]
  have b : ∀ p : Nat, (bitAt (n : Int) (p : Int) && bitAt (m : Int) (p : Int)) = (n &&& m).testBit p := by
    intro p; rw [bitAt_nat, bitAt_nat, Nat.testBit_and]
  have b0 := b 0; have b1 := b 1; have b2 := b 2; have b3 := b 3; have b4 := b 4; have b5 := b 5; have b6 := b 6; have b7 := b 7
  have small : n &&& m < 256 := Nat.lt_of_le_of_lt Nat.and_le_left (by omega : n < 256)
  generalize n &&& m = q at b0 b1 b2 b3 b4 b5 b6 b7 small ⊢
  have e : anyBit (n : Int) (m : Int) 8 0 false = (q.testBit 0 || q.testBit 1 || q.testBit 2 || q.testBit 3 || q.testBit 4 || q.testBit 5 || q.testBit 6 || q.testBit 7) := by
    rw [← b0, ← b1, ← b2, ← b3, ← b4, ← b5, ← b6, ← b7]
    simp only [anyBit, Bool.false_or]; rfl
  rw [e]
  by_cases z : q = 0
  · subst z; simp
  · have : ∃ i, q.testBit i = true := by
      by_cases h : ∃ i, q.testBit i = true
      · exact h
      · exact absurd (Nat.eq_of_testBit_eq (x := q) (y := 0) (fun i => by
          rw [Nat.zero_testBit]; cases g : q.testBit i with | false => rfl | true => exact absurd ⟨i, g⟩ h)) z
    obtain ⟨i, hi⟩ := this
    have hi8 : i < 8 := by
      rcases Nat.lt_or_ge i 8 with c | c
      · exact c
      · have : q < 2 ^ i := Nat.lt_of_lt_of_le small (by have := Nat.pow_le_pow_right (n := 2) (by omega) c; simpa using this)
        rw [Nat.testBit_lt_two_pow this] at hi; cases hi
    have : decide ((q : Int) = 0) = false := by simp; omega
    rw [this]
    have : i = 0 ∨ i = 1 ∨ i = 2 ∨ i = 3 ∨ i = 4 ∨ i = 5 ∨ i = 6 ∨ i = 7 := by omega
    rcases this with rfl | rfl | rfl | rfl | rfl | rfl | rfl | rfl <;> simp [hi]

/-! ### the answers -/
def mark1 (a : Int) (x : Map) : Map := if Go.bits .and .i64 x.f3 a = 0 then ⟨x.f0, x.f1, x.f2, x.f3, 1⟩ else x
theorem spec_bits (l : List Map) (a : Int) (out : List Map) (i : Int) (x : Map) (ha : 0 ≤ a) (ha' : a ≤ 255) (hc : 0 ≤ x.f3) (hc' : x.f3 ≤ 255) (R : List Map × Int) (hout : out.length < 3518437208883) (n : Nat) :
    ∀ (p : Int) (s : Bool), 0 ≤ p → p + n = 8 →
    Ev (fun k => spec_QueueMaps.l0 k l a (out ++ [if anyBit x.f3 a n p s = true then x else ⟨x.f0, x.f1, x.f2, x.f3, 1⟩]) (wrap64 (i + 1))) R →
    Ev (fun k => spec_QueueMaps.l1 k l a out i s p x.f0 x.f1 x.f2 x.f3 x.f4) R := by
  induction n with
  | zero =>
    intro p s h0 hp h
    refine ev_succ ?_; simp only [spec_QueueMaps.l1]
    refine ev_neg (by omega) ?_
    cases s with
    | true => exact ev_pos (by trivial) (ev_pos (by omega) (by simpa only [anyBit, if_true] using h))
    | false => exact ev_neg (by simp) (ev_pos (by omega) (by simpa [anyBit] using h))
  | succ n ih =>
    intro p s h0 hp h
    refine ev_succ ?_; simp only [spec_QueueMaps.l1]
    refine ev_pos (by omega) (ev_bind (bit_is x.f3 p hc hc' h0 (by omega)) ?_)
    rw [w64_in (n := p + 1) (by omega) (by omega)]
    cases b1 : bitAt x.f3 p with
    | false =>
      refine ev_neg (by simp) (ih (p + 1) s (by omega) (by omega) ?_)
      simpa only [anyBit, b1, Bool.false_and, Bool.or_false] using h
    | true =>
      refine ev_pos (by trivial) (ev_bind (bit_is a p ha ha' h0 (by omega)) ?_)
      cases b2 : bitAt a p with
      | false =>
        refine ev_neg (by simp) (ih (p + 1) s (by omega) (by omega) ?_)
        simpa only [anyBit, b1, b2, Bool.and_false, Bool.or_false] using h
      | true =>
        refine ev_pos (by trivial) (ih (p + 1) true (by omega) (by omega) ?_)
        simpa only [anyBit, b1, b2, Bool.and_true, Bool.or_true] using h
theorem spec_loop (a : Int) (ha : 0 ≤ a) (ha' : a ≤ 255) (xs : List Map) : ∀ (pre : List Map), (pre ++ xs).length ≤ 1000000 → (∀ x ∈ xs, 1 ≤ x.f3 ∧ x.f3 ≤ 255) →
    Ev (fun k => spec_QueueMaps.l0 k (pre ++ xs) a (pre.map (mark1 a)) (pre.length : Int)) ((pre ++ xs).map (mark1 a), 0) := by
  induction xs with
  | nil => intro pre hl _; refine ev_succ ?_; simp only [spec_QueueMaps.l0]; exact ev_neg (by simp) (ev_eq (Ev.now _) (by simp))
  | cons x t ih =>
    intro pre hl hx
    have hx0 := hx x (by simp)
    simp only [List.length_append, List.length_cons] at hl
    refine ev_succ ?_; simp only [spec_QueueMaps.l0]
    refine ev_pos (by simp; omega) (ev_pos (by omega) ?_)
    simp only [rdM_mid]
    refine spec_bits _ a _ _ x ha ha' (by omega) hx0.2 _ (by simp; omega) 8 0 false (by omega) (by omega) ?_
    have e : (pre.map (mark1 a) ++ [if anyBit x.f3 a 8 0 false = true then x else ⟨x.f0, x.f1, x.f2, x.f3, 1⟩]) = (pre ++ [x]).map (mark1 a) := by
      rw [any_is x.f3 a (by omega) hx0.2 ha ha', List.map_append, List.map_cons, List.map_nil]
      congr 2
      unfold mark1
      by_cases c : Go.bits .and .i64 x.f3 a = 0 <;> simp [c]
    rw [e, next_at pre x (by omega), snoc_cons pre t x]
    exact ih (pre ++ [x]) (by simp; omega) (fun y hy => hx y (by simp [hy]))
theorem impl_loop (a : Int) (xs : List Map) : ∀ (pre : List Map), (pre ++ xs).length ≤ 1000000 →
    Ev (fun k => impl_QueueMaps.l0 k a (pre.map (mark1 a) ++ xs) ((pre ++ xs).length : Int) (pre.length : Int)) ((pre ++ xs).map (mark1 a), 0) := by
  induction xs with
  | nil => intro pre hl; refine ev_succ ?_; simp only [impl_QueueMaps.l0]; exact ev_neg (by simp) (ev_eq (Ev.now _) (by simp))
  | cons x t ih =>
    intro pre hl
    have hlen : ((pre ++ [x]) ++ t).length = (pre ++ x :: t).length := by simp
    simp only [List.length_append, List.length_cons] at hl
    have hr : rd_T84 (pre.map (mark1 a) ++ x :: t) (pre.length : Int) = x := by
      have := rdM_mid (pre.map (mark1 a)) t x
      rwa [List.length_map] at this
    have hs : ∀ y, (pre.map (mark1 a) ++ x :: t).set (pre.length : Int).toNat y = pre.map (mark1 a) ++ y :: t := by
      intro y
      have := set_mid (pre.map (mark1 a)) t x y
      rwa [List.length_map] at this
    refine ev_succ ?_; simp only [impl_QueueMaps.l0]
    refine ev_pos (by simp; omega) (ev_pos (by omega) (ev_pos (by simp; omega) ?_))
    simp only [hr, hs]
    have nx : ∀ y, y = mark1 a x → Ev (fun k => impl_QueueMaps.l0 k a (pre.map (mark1 a) ++ y :: t) ((pre ++ x :: t).length : Int) (wrap64 ((pre.length : Int) + 1))) ((pre ++ x :: t).map (mark1 a), 0) := by
      rintro y rfl
      have := ih (pre ++ [x]) (by simp; omega)
      rw [next_at pre x (by omega), ← hlen, snoc_cons pre t x]
      have e : pre.map (mark1 a) ++ mark1 a x :: t = (pre ++ [x]).map (mark1 a) ++ t := by simp
      rw [e]; exact this
    by_cases c : Go.bits .and .i64 x.f3 a = 0
    · exact ev_pos c (nx _ (by unfold mark1; rw [if_pos c]))
    · exact ev_neg c (nx _ (by unfold mark1; rw [if_neg c]))
/-- What both answer. -/
theorem queue_both (l : List Map) (a : Int) : ∃ R : List Map × Int, R.1.length ≤ 256 ∧ Ev (fun k => spec_QueueMaps.f k l a) R ∧ Ev (fun k => impl_QueueMaps.f k l a) R := by
  obtain ⟨r, hr, e1, e2⟩ := maps_valid l
  unfold spec_QueueMaps.f impl_QueueMaps.f
  cases r with
  | false => exact ⟨([], 1), by simp, ev_bind e1 (ev_neg (by simp) (Ev.now _)), ev_bind e2 (ev_neg (by simp) (Ev.now _))⟩
  | true =>
    obtain ⟨hlen, hg⟩ := hr rfl
    by_cases h0 : a < 0
    · refine ⟨([], 4), by simp, ev_bind e1 (ev_pos (by trivial) (ev_pos h0 (ev_succ ?_))), ev_bind e2 (ev_pos (by trivial) (ev_pos h0 (ev_succ ?_)))⟩
      · simp only [spec_QueueMaps.j0]; exact ev_pos (by trivial) (Ev.now _)
      · simp only [impl_QueueMaps.j0]; exact ev_pos (by trivial) (Ev.now _)
    by_cases h1 : a > 255
    · refine ⟨([], 4), by simp, ev_bind e1 (ev_pos (by trivial) (ev_neg h0 (ev_succ ?_))), ev_bind e2 (ev_pos (by trivial) (ev_neg h0 (ev_succ ?_)))⟩
      · simp only [spec_QueueMaps.j0]; exact ev_pos (by simpa using h1) (Ev.now _)
      · simp only [impl_QueueMaps.j0]; exact ev_pos (by simpa using h1) (Ev.now _)
    refine ⟨(l.map (mark1 a), 0), by simpa using hlen, ev_bind e1 (ev_pos (by trivial) (ev_neg h0 (ev_succ ?_))), ev_bind e2 (ev_pos (by trivial) (ev_neg h0 (ev_succ ?_)))⟩
    · simp only [spec_QueueMaps.j0]
      refine ev_neg (by simpa using h1) ?_
      have := spec_loop a (by omega) (by omega) l [] (by simp; omega) (goodFrom_mem hg)
      simpa only [List.nil_append, List.length_nil, List.map_nil, nat0] using this
    · simp only [impl_QueueMaps.j0]
      refine ev_neg (by simpa using h1) (ev_pos (by simp; omega) (ev_some ?_))
      have := impl_loop a l [] (by simp; omega)
      simpa only [List.nil_append, List.length_nil, List.map_nil, nat0] using this

theorem FnExactQueueMaps : laws_FnExactQueueMaps.Pure := by
  intro l0 a hlen _ _
  refine Ev.rounds ?_
  unfold laws_FnExactQueueMaps.f
  rw [szMapS_is l0 hlen]
  refine ev_some ?_
  by_cases big : l0.length ≤ 1048576
  · rw [if_pos big]
    refine ev_neg (by omega) ?_
    obtain ⟨R, hR, e1, e2⟩ := queue_both (l0.map toI) a
    have hml : (l0.map toI).length ≤ 1048576 := by simpa using big
    refine ev_bind (toMapS_is l0 big) (ev_bind e1 (ev_bind (toMapS_is l0 big) (ev_bind e2 (ev_bind (eqMapS_refl R.1 (by omega)) ?_))))
    refine ev_pos (by trivial) ?_
    rw [bne_self_eq_false]
    refine ev_succ ?_; simp only [laws_FnExactQueueMaps.j0]
    refine ev_neg (by decide) (ev_bind (toMapS_is l0 big) (ev_bind (eqMapS_refl _ (by omega)) (ev_pos (by trivial) ?_)))
    obtain ⟨ys, m1, _⟩ := markMapS_is (l0.map toI) hml
    refine ev_bind m1 (ev_neg (by simp only []; omega) (ev_bind (eqMapS_refl R.1 (by omega)) (ev_pos (by trivial) ?_)))
    rw [bne_self_eq_false]
    refine ev_succ ?_; simp only [laws_FnExactQueueMaps.j1]
    obtain ⟨zs, m2, m3⟩ := markMapS_is R.1 (by omega)
    refine ev_neg (by decide) (ev_bind m2 (ev_bind m3 (ev_neg (by omega) (ev_pos rfl ?_))))
    exact ev_bind (toMapS_is l0 big) (ev_bind e2 (ev_bind (eqMapS_refl R.1 (by omega)) (ev_pos (by trivial) (ev_pos rfl (Ev.now _)))))
  · rw [if_neg big]
    exact ev_pos (by omega) (Ev.now _)

end Go.Proofs.Ytakeenidhkhmiaa.Pure
