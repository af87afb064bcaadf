/- The law FnExactReorderRun: sizes, copies, comparisons, marks. Conditions: what the kinds of the arguments say, and sizes. -/
import Derived.Test.YtlladicdmmdboaaUReorderRun2
import Derived.Test.YtlladicdmmdboaaAk2
set_option linter.unusedSimpArgs false
set_option linter.unusedVariables false
namespace Go.AK
open Go
theorem szByteS_is (l : List Int) (a : Int) (ha : 0 ≤ a ∧ a ≤ 1048576) (hl : l.length < 9223372036854775808) : laws_szByteS.f l a = some (if a < l.length then -1 else a - l.length) := by
  unfold laws_szByteS.f
  rw [wi64_in (by omega) (by omega)]
  by_cases c : a < l.length
  · rw [if_pos (by omega), if_pos c]
  · rw [if_neg (by omega), if_neg c]
theorem szReorderEvent_is (x y : Int) (l : List Int) (z a : Int) (ha : 0 ≤ a ∧ a ≤ 1048576) (hl : l.length < 9223372036854775808) : laws_szReorderEvent.f x y l z a = some (if a < l.length then -1 else a - l.length) := by
  unfold laws_szReorderEvent.f
  rw [szByteS_is l a ha hl, some_bind]
  by_cases c : a < l.length
  · rw [if_pos c, if_pos (by omega)]
  · rw [if_neg c, if_neg (by omega)]
def tot : List S172 → Int
  | [] => 0
  | x :: t => x.f2.length + tot t
theorem tot_nn (l : List S172) : 0 ≤ tot l := by
  induction l with
  | nil => exact Int.le_refl _
  | cons x t ih => unfold tot; omega
theorem szReorderEventS_loop (l : List S172) (hl : l.length ≤ 1048576) (s : List S172) (hs : ∀ x ∈ s, x.f2.length < 9223372036854775808) : ∀ (a i : Int), 0 ≤ i → i ≤ l.length → l.drop i.toNat = s → 0 ≤ a → a ≤ 1048576 →
    ∃ y, laws_szReorderEventS.l0 l a i = some y ∧ ∀ x, y = .a x → 0 ≤ x ∧ x + tot s = a := by
  induction s with
  | nil =>
    intro a i h0 h1 hd ha hb
    rw [laws_szReorderEventS.l0, if_neg (suf_nil h0 hd)]
    exact ⟨_, rfl, fun x hx => by cases hx; exact ⟨ha, by simp [tot]⟩⟩
  | cons e t ih =>
    intro a i h0 h1 hd ha hb
    obtain ⟨q1, q2, q3⟩ := suf_cons h0 hd z172
    rw [laws_szReorderEventS.l0, if_pos q1, if_pos ⟨h0, q1⟩, q2, szReorderEvent_is _ _ _ _ _ ⟨ha, hb⟩ (hs e (by simp)), some_bind, wi64_in (n := i + 1) (by omega) (by omega)]
    by_cases c : a < e.f2.length
    · rw [if_pos c, if_pos (by omega)]; exact ⟨_, rfl, fun x hx => by cases hx⟩
    · rw [if_neg c, if_neg (by omega)]
      obtain ⟨y, hy, hz⟩ := ih (fun x hx => hs x (by simp [hx])) (a - e.f2.length) (i + 1) (by omega) (by omega) q3 (by omega) (by omega)
      exact ⟨y, hy, fun x hx => by have := hz x hx; unfold tot; omega⟩
theorem szReorderEventS_is (l : List S172) (hl : l.length < 9223372036854775808) (hs : ∀ x ∈ l, x.f2.length < 9223372036854775808) : ∃ r, laws_szReorderEventS.f l 1048576 = some r ∧ (0 ≤ r → l.length + tot l ≤ 1048576) := by
  unfold laws_szReorderEventS.f
  rw [wi64_in (by omega) (by omega)]
  by_cases c : 1048576 - (l.length : Int) < 0
  · rw [if_pos c]; exact ⟨_, rfl, fun h => by omega⟩
  · rw [if_neg c]
    refine step_ex (szReorderEventS_loop l (by omega) l hs _ 0 (by omega) (by omega) rfl (by omega) (by omega)) fun y hy => ?_
    cases y with
    | a x => exact ⟨x, rfl, fun h => by have := hy x rfl; omega⟩
    | b x => exact ⟨-1, rfl, fun h => by omega⟩
theorem toByteS_loop (l s : List Int) (hl : l.length < 9223372036854775807) : ∀ (i : Int) (p : List Int), 0 ≤ i → (p.length : Int) = i → l.drop i.toNat = s → i ≤ l.length → laws_toByteS.l0 l i (p ++ List.replicate s.length 0) = some (p ++ s) := by
  induction s with
  | nil => intro i p h0 hp hd h1; rw [laws_toByteS.l0, if_neg (suf_nil h0 hd)]; simp
  | cons e t ih =>
    intro i p h0 hp hd h1
    obtain ⟨q1, q2, q3⟩ := suf_cons h0 hd 0
    rw [List.length_cons, List.replicate_succ, laws_toByteS.l0, if_pos q1, if_pos ⟨h0, q1⟩, if_pos (lt_app hp), q2, set_app hp, wi64_in (by omega) (by omega), ih (i + 1) (p ++ [e]) (by omega) (len_snoc hp) q3 (by omega)]
    simp
theorem toByteS_is (l : List Int) (hl : l.length ≤ 1048576) : laws_toByteS.f l = some l := by
  unfold laws_toByteS.f
  rw [if_pos (by omega), show (l.length : Int).toNat = l.length by omega]
  have := toByteS_loop l l (by omega) 0 [] (by omega) rfl rfl (by omega)
  rw [List.nil_append, List.nil_append] at this
  rw [this, some_bind]
def conv (x : S172) : S116 := ⟨x.f0, x.f1, x.f2, x.f3⟩
theorem toReorderEventS_loop (l s : List S172) (hl : l.length ≤ 1048576) (hs : ∀ x ∈ s, x.f2.length ≤ 1048576) : ∀ (i : Int) (p : List S116), 0 ≤ i → (p.length : Int) = i → l.drop i.toNat = s → i ≤ l.length → laws_toReorderEventS.l0 l i (p ++ List.replicate s.length z116) = some (p ++ s.map conv) := by
  induction s with
  | nil => intro i p h0 hp hd h1; rw [laws_toReorderEventS.l0, if_neg (suf_nil h0 hd)]; simp
  | cons e t ih =>
    intro i p h0 hp hd h1
    obtain ⟨q1, q2, q3⟩ := suf_cons h0 hd z172
    rw [List.length_cons, List.replicate_succ, laws_toReorderEventS.l0, if_pos q1, if_pos ⟨h0, q1⟩, q2]
    unfold laws_toReorderEvent.f
    rw [toByteS_is _ (hs e (by simp)), some_bind, some_bind, if_pos (lt_app hp), set_app hp, wi64_in (by omega) (by omega)]
    show laws_toReorderEventS.l0 l (i + 1) (p ++ [conv e] ++ List.replicate t.length z116) = _
    rw [ih (fun x hx => hs x (by simp [hx])) (i + 1) (p ++ [conv e]) (by omega) (len_snoc hp) q3 (by omega)]
    simp
theorem tot_mem {l : List S172} {x : S172} (h : x ∈ l) : x.f2.length ≤ tot l := by
  induction l with
  | nil => cases h
  | cons y t ih =>
    unfold tot
    have := tot_nn t
    rcases List.mem_cons.1 h with rfl | h
    · omega
    · have := ih h; omega
theorem toReorderEventS_is (l : List S172) (hl : l.length + tot l ≤ 1048576) : laws_toReorderEventS.f l = some (l.map conv) := by
  unfold laws_toReorderEventS.f
  have := tot_nn l
  rw [if_pos (by omega), show (l.length : Int).toNat = l.length by omega]
  have := toReorderEventS_loop l l (by omega) (fun x hx => by have := tot_mem hx; omega) 0 [] (by omega) rfl rfl (by omega)
  rw [List.nil_append, List.nil_append] at this
  rw [this, some_bind]
/-! ### a list compared with itself -/
theorem eqByteS_loop (l s : List Int) (hl : l.length < 9223372036854775807) : ∀ i : Int, 0 ≤ i → l.drop i.toNat = s → laws_eqByteS.l0 l l i = some (.a ()) := by
  induction s with
  | nil => intro i h0 hd; rw [laws_eqByteS.l0, if_neg (suf_nil h0 hd)]
  | cons e t ih =>
    intro i h0 hd
    obtain ⟨q1, q2, q3⟩ := suf_cons h0 hd 0
    rw [laws_eqByteS.l0, if_pos q1, if_pos ⟨h0, q1⟩, if_pos ⟨h0, q1⟩, if_neg (fun h => h rfl), wi64_in (by omega) (by omega)]
    exact ih (i + 1) (by omega) q3
theorem eqByteS_is (l : List Int) (hl : l.length < 9223372036854775807) : laws_eqByteS.f l l = some true := by
  unfold laws_eqByteS.f
  rw [if_neg (fun h => h rfl), eqByteS_loop l l hl 0 (by omega) rfl, some_bind]
theorem eqReorderOut_is (x y : Int) (l : List Int) (hl : l.length < 9223372036854775807) : laws_eqReorderOut.f x y l x y l = some true := by
  unfold laws_eqReorderOut.f
  rw [if_neg (fun h => h rfl), if_neg (fun h => h rfl), eqByteS_is l hl, some_bind]; rfl
theorem eqReorderOutS_loop (l s : List S118) (hl : l.length < 9223372036854775807) (hs : ∀ x ∈ s, x.f2.length < 9223372036854775807) : ∀ i : Int, 0 ≤ i → l.drop i.toNat = s → laws_eqReorderOutS.l0 l l i = some (.a ()) := by
  induction s with
  | nil => intro i h0 hd; rw [laws_eqReorderOutS.l0, if_neg (suf_nil h0 hd)]
  | cons e t ih =>
    intro i h0 hd
    obtain ⟨q1, q2, q3⟩ := suf_cons h0 hd z118
    rw [laws_eqReorderOutS.l0, if_pos q1, if_pos ⟨h0, q1⟩, if_pos ⟨h0, q1⟩, q2, eqReorderOut_is _ _ _ (hs e (by simp)), some_bind, if_neg (by decide), wi64_in (by omega) (by omega)]
    exact ih (fun x hx => hs x (by simp [hx])) (i + 1) (by omega) q3
theorem eqReorderOutS_is (l : List S118) (hl : l.length < 9223372036854775807) (hs : ∀ x ∈ l, x.f2.length < 9223372036854775807) : laws_eqReorderOutS.f l l = some true := by
  unfold laws_eqReorderOutS.f
  rw [if_neg (fun h => h rfl), eqReorderOutS_loop l l hl hs 0 (by omega) rfl, some_bind]
theorem eqReorderEvent_is (x y : Int) (l : List Int) (z : Int) (hl : l.length < 9223372036854775807) : laws_eqReorderEvent.f x y l z x y l z = some true := by
  unfold laws_eqReorderEvent.f
  rw [if_neg (fun h => h rfl), if_neg (fun h => h rfl), eqByteS_is l hl, some_bind, if_neg (by decide), if_neg (fun h => h rfl)]
theorem eqReorderEventS_loop (l s : List S116) (hl : l.length < 9223372036854775807) (hs : ∀ x ∈ s, x.f2.length < 9223372036854775807) : ∀ i : Int, 0 ≤ i → l.drop i.toNat = s → laws_eqReorderEventS.l0 l l i = some (.a ()) := by
  induction s with
  | nil => intro i h0 hd; rw [laws_eqReorderEventS.l0, if_neg (suf_nil h0 hd)]
  | cons e t ih =>
    intro i h0 hd
    obtain ⟨q1, q2, q3⟩ := suf_cons h0 hd z116
    rw [laws_eqReorderEventS.l0, if_pos q1, if_pos ⟨h0, q1⟩, if_pos ⟨h0, q1⟩, q2, eqReorderEvent_is _ _ _ _ (hs e (by simp)), some_bind, if_neg (by decide), wi64_in (by omega) (by omega)]
    exact ih (fun x hx => hs x (by simp [hx])) (i + 1) (by omega) q3
theorem eqReorderEventS_is (l : List S116) (hl : l.length < 9223372036854775807) (hs : ∀ x ∈ l, x.f2.length < 9223372036854775807) : laws_eqReorderEventS.f l l = some true := by
  unfold laws_eqReorderEventS.f
  rw [if_neg (fun h => h rfl), eqReorderEventS_loop l l hl hs 0 (by omega) rfl, some_bind]
/-! ### marks -/
def mkB : Int → List Int → List Int
  | _, [] => []
  | a, _ :: t => IntKind.u8.wrap a :: mkB (a + 1) t
theorem mkB_len (a : Int) (l : List Int) : (mkB a l).length = l.length := by
  induction l generalizing a with
  | nil => rfl
  | cons x t ih => simp [mkB, ih]
theorem markByteS_loop (s : List Int) : ∀ (a i : Int) (p : List Int), (p.length : Int) = i → 0 ≤ i → i + s.length < 9223372036854775807 → 0 ≤ a → a + s.length < 9223372036854775807 → laws_markByteS.l0 a i (p ++ s) = some (a + s.length, p ++ mkB a s) := by
  induction s with
  | nil => intro a i p hp h0 h1 h2 h3; rw [laws_markByteS.l0, if_neg (nlt_app hp)]; simp [mkB]
  | cons e t ih =>
    intro a i p hp h0 h1 h2 h3
    rw [List.length_cons] at h1 h3
    rw [laws_markByteS.l0, if_pos (lt_app hp).2, if_pos (lt_app hp), set_app hp, wi64_in (by omega) (by omega), wi64_in (by omega) (by omega), ih (a + 1) (i + 1) _ (len_snoc hp) (by omega) (by omega) (by omega) (by omega)]
    simp [mkB]; omega
theorem markByteS_is (l : List Int) (a : Int) (h2 : 0 ≤ a) (h3 : a + l.length < 9223372036854775807) : laws_markByteS.f l a = some (a + l.length, mkB a l) := by
  unfold laws_markByteS.f
  have := markByteS_loop l a 0 [] rfl (by omega) (by omega) h2 h3
  rw [List.nil_append, List.nil_append] at this
  rw [this, some_bind]
theorem heldByteS_loop (l s : List Int) : ∀ (a i : Int), 0 ≤ i → l.drop i.toNat = mkB a s → l.length < 9223372036854775807 → 0 ≤ a → a + s.length < 9223372036854775807 → laws_heldByteS.l0 l a i = some (.a (a + s.length)) := by
  induction s with
  | nil => intro a i h0 hd h1 h2 h3; rw [laws_heldByteS.l0, if_neg (suf_nil h0 hd)]; simp
  | cons e t ih =>
    intro a i h0 hd h1 h2 h3
    rw [List.length_cons] at h3
    obtain ⟨q1, q2, q3⟩ := suf_cons h0 hd 0
    rw [laws_heldByteS.l0, if_pos q1, if_pos ⟨h0, q1⟩, q2, if_neg (fun h => h rfl), wi64_in (by omega) (by omega), wi64_in (by omega) (by omega), ih (a + 1) (i + 1) (by omega) q3 h1 (by omega) (by omega), List.length_cons]
    congr 2; omega
theorem heldByteS_is (l : List Int) (a : Int) (h2 : 0 ≤ a) (h3 : a + l.length < 9223372036854775807) : laws_heldByteS.f (mkB a l) a = some (a + l.length) := by
  unfold laws_heldByteS.f
  rw [heldByteS_loop (mkB a l) l a 0 (by omega) rfl (by rw [mkB_len]; omega) h2 h3, some_bind]
theorem markReorderEventS_loop (s : List S116) : ∀ (a i : Int) (p : List S116) (M : Int), (p.length : Int) = i → 0 ≤ i → i + s.length < 9223372036854775807 → 0 ≤ a → (∀ x ∈ s, x.f2.length ≤ 1048576) → s.length * 1048580 ≤ M → a + M < 9223372036854775807 →
    ∃ r, laws_markReorderEventS.l0 a i (p ++ s) = some r ∧ 0 ≤ r.1 := by
  induction s with
  | nil => intro a i p M hp h0 h1 h2 hs h3 h4; rw [laws_markReorderEventS.l0, if_neg (nlt_app hp)]; exact ⟨_, rfl, h2⟩
  | cons e t ih =>
    intro a i p M hp h0 h1 h2 hs h3 h4
    rw [List.length_cons] at h1 h3
    have hl := hs e (by simp)
    rw [laws_markReorderEventS.l0, if_pos (lt_app hp).2, if_pos (lt_app hp), rd_app hp, wi64_in (n := a + 1) (by omega) (by omega), wi64_in (n := a + 1 + 1) (by omega) (by omega), markByteS_is _ _ (by omega) (by omega), some_bind, set_app hp,
      wi64_in (n := i + 1) (by omega) (by omega)]
    show ∃ r, laws_markReorderEventS.l0 (IntKind.i64.wrap (a + 1 + 1 + e.f2.length + 1)) (i + 1) _ = some r ∧ _
    rw [wi64_in (by omega) (by omega)]
    exact ih _ (i + 1) _ (M - 1048580) (len_snoc hp) (by omega) (by omega) (by omega) (fun x hx => hs x (by simp [hx])) (by omega) (by omega)
theorem markReorderEventS_is (l : List S116) (hl : l.length ≤ 1048576) (hs : ∀ x ∈ l, x.f2.length ≤ 1048576) : ∃ r, laws_markReorderEventS.f l 1 = some r ∧ 0 ≤ r.1 := by
  unfold laws_markReorderEventS.f
  refine step_ex (markReorderEventS_loop l 1 0 [] (l.length * 1048580) rfl (by omega) (by omega) (by omega) hs (by omega) (by omega)) fun r hr => ⟨_, rfl, hr⟩
def mkO : Int → List S118 → List S118
  | _, [] => []
  | a, x :: t => ⟨a, a + 1, mkB (a + 2) x.f2⟩ :: mkO (a + 2 + x.f2.length) t
def cntO : List S118 → Int
  | [] => 0
  | x :: t => 2 + x.f2.length + cntO t
theorem cntO_nn (l : List S118) : 0 ≤ cntO l := by
  induction l with
  | nil => exact Int.le_refl _
  | cons x t ih => unfold cntO; omega
theorem mkO_len (a : Int) (l : List S118) : (mkO a l).length = l.length := by
  induction l generalizing a with
  | nil => rfl
  | cons x t ih => simp [mkO, ih]
theorem markReorderOutS_loop (s : List S118) : ∀ (a i : Int) (p : List S118), (p.length : Int) = i → 0 ≤ i → i + s.length < 9223372036854775807 → 0 ≤ a → a + cntO s < 9223372036854775807 →
    laws_markReorderOutS.l0 a i (p ++ s) = some (a + cntO s, p ++ mkO a s) := by
  induction s with
  | nil => intro a i p hp h0 h1 h2 h3; rw [laws_markReorderOutS.l0, if_neg (nlt_app hp)]; simp [mkO, cntO]
  | cons e t ih =>
    intro a i p hp h0 h1 h2 h3
    unfold cntO at h3
    have := cntO_nn t
    rw [List.length_cons] at h1
    rw [laws_markReorderOutS.l0, if_pos (lt_app hp).2, if_pos (lt_app hp), rd_app hp, wi64_in (n := a + 1) (by omega) (by omega), wi64_in (n := a + 1 + 1) (by omega) (by omega), markByteS_is _ _ (by omega) (by omega), some_bind, set_app hp,
      wi64_in (n := i + 1) (by omega) (by omega)]
    show laws_markReorderOutS.l0 (a + 1 + 1 + e.f2.length) (i + 1) _ = _
    rw [ih _ (i + 1) _ (len_snoc hp) (by omega) (by omega) (by omega) (by omega), show a + 1 + 1 = a + 2 by omega]
    simp [mkO, cntO]; omega
theorem markReorderOutS_is (l : List S118) (a : Int) (hl : l.length < 9223372036854775807) (h2 : 0 ≤ a) (h3 : a + cntO l < 9223372036854775807) : laws_markReorderOutS.f l a = some (a + cntO l, mkO a l) := by
  unfold laws_markReorderOutS.f
  have := markReorderOutS_loop l a 0 [] rfl (by omega) (by omega) h2 h3
  rw [List.nil_append, List.nil_append] at this
  rw [this, some_bind]
theorem heldReorderOutS_loop (l s : List S118) : ∀ (a i : Int), 0 ≤ i → l.drop i.toNat = mkO a s → l.length < 9223372036854775807 → 0 ≤ a → a + cntO s < 9223372036854775807 → laws_heldReorderOutS.l0 l a i = some (.a (a + cntO s)) := by
  induction s with
  | nil => intro a i h0 hd h1 h2 h3; rw [laws_heldReorderOutS.l0, if_neg (suf_nil h0 hd)]; simp [cntO]
  | cons e t ih =>
    intro a i h0 hd h1 h2 h3
    unfold cntO at h3 ⊢
    have := cntO_nn t
    obtain ⟨q1, q2, q3⟩ := suf_cons h0 hd z118
    rw [laws_heldReorderOutS.l0, if_pos q1, if_pos ⟨h0, q1⟩, q2, if_neg (fun h => h rfl), wi64_in (n := a + 1) (by omega) (by omega), if_neg (fun h => h rfl), wi64_in (n := a + 1 + 1) (by omega) (by omega), show a + 1 + 1 = a + 2 by omega,
      heldByteS_is _ _ (by omega) (by omega), some_bind, if_neg (by omega), wi64_in (by omega) (by omega), ih _ (i + 1) (by omega) q3 h1 (by omega) (by omega)]
    congr 2; omega
theorem heldReorderOutS_is (l : List S118) (a : Int) (hl : l.length < 9223372036854775807) (h2 : 0 ≤ a) (h3 : a + cntO l < 9223372036854775807) : laws_heldReorderOutS.f (mkO a l) a = some (a + cntO l) := by
  unfold laws_heldReorderOutS.f
  rw [heldReorderOutS_loop (mkO a l) l a 0 (by omega) rfl (by rw [mkO_len]; exact hl) h2 h3, some_bind]
end Go.AK
