/- The law FnExactReorderState: a run of events at the buffer. Conditions: bounds. -/
import Derived.Test.YtlladicdmmdboaaPureReorderState4
set_option linter.unusedSimpArgs false
set_option linter.unusedVariables false
namespace Go.AK
open Go
structure EvOk (x : S116) : Prop where
  at_ : 0 ≤ x.f1 ∧ x.f1 ≤ 18446744073709551615
  len : x.f2.length ≤ 1048576
  byte : ∀ y ∈ x.f2, 0 ≤ y ∧ y ≤ 255
  n : -9223372036854775808 ≤ x.f3 ∧ x.f3 ≤ 9223372036854775807
theorem step_both (b c d tk : Int) (e : Bool) (got by_ : List Int) (hv : List Bool) (x : S116) (hx : EvOk x) (hb : 0 ≤ b ∧ b ≤ 4611686018427387904) (hc : c ≤ 4096) (ht : 0 ≤ tk ∧ tk ≤ 1099511627776) (hg : Got c tk got) (hw : Win b c tk (gat got) by_ hv) :
    ∃ code n out got' tk' d' e' by' hv', spec_l5Step.f b c got tk d e x.f0 x.f1 x.f2 x.f3 = some (code, n, out, got', tk', d', e') ∧ impl_buffer_act.f c by_ hv (b + tk) e d x.f0 x.f1 x.f2 x.f3 = some (code, n, out, by', hv', b + tk', e', d') ∧
      tk ≤ tk' ∧ tk' ≤ tk + c ∧ out.length ≤ 4096 ∧ Got c tk' got' ∧ Win b c tk' (gat got') by' hv' ∧ ((e = false → d = 0) → e' = false → d' = 0) := by
  have hc0 := hw.hc
  unfold spec_l5Step.f impl_buffer_act.f
  by_cases k1 : x.f0 = 1
  · obtain ⟨code, n, got', by', hv', r1, r2, r3, r4⟩ := put_both b c d tk x.f1 e got by_ hv x.f2 hb hc ht hx.at_ hx.len hx.byte hg hw
    rw [if_pos k1, if_pos k1, r1, r2, some_bind, some_bind]
    exact ⟨_, _, _, _, _, _, _, _, _, rfl, rfl, Int.le_refl _, by omega, by simp, r3, r4, fun h => h⟩
  · by_cases k2 : x.f0 = 2
    · obtain ⟨code, n, out, tk', hv', r1, r2, r3, r4, r5, r6⟩ := take_both b c d tk x.f3 e got by_ hv hb hc ht hx.n hg hw
      rw [if_neg k1, if_neg k1, if_pos k2, if_neg (show ¬ x.f0 = 3 by omega), if_pos k2, r1, r2, some_bind, some_bind]
      exact ⟨_, _, _, _, _, _, _, _, _, rfl, rfl, r3, r4, r5, ⟨by have := hg.len; show (got.length : Int) ≤ tk' + c; omega, hg.rng⟩, r6, fun h => h⟩
    · by_cases k3 : x.f0 = 3
      · obtain ⟨code, d', e', r1, r2, r3⟩ := fin_both b c d tk x.f1 e got by_ hv hb hc ht hx.at_ hg hw
        rw [if_neg k1, if_neg k1, if_neg k2, if_pos k3, if_pos k3, r1, r2, some_bind, some_bind]
        exact ⟨_, _, _, _, _, _, _, _, _, rfl, rfl, Int.le_refl _, by omega, by simp, hg, hw, r3⟩
      · rw [if_neg k1, if_neg k1, if_neg k2, if_neg k3, if_neg k3, if_neg k2]
        exact ⟨_, _, _, _, _, _, _, _, _, rfl, rfl, Int.le_refl _, by omega, by simp, hg, hw, fun h => h⟩
theorem run_both (b c : Int) (l : List S116) (u1 u2 u4 u5 : Int) (u3 : List Int) (u6 : Bool) (hl : l.length ≤ 4000) (hb : 0 ≤ b ∧ b ≤ 4611686018427387904) (hc : c ≤ 4096) (s : List S116) (hs : ∀ x ∈ s, EvOk x) :
    ∀ (i tk d : Int) (e : Bool) (got by_ : List Int) (hv : List Bool) (outs : List S118), 0 ≤ i → i ≤ l.length → l.drop i.toNat = s → 0 ≤ tk → tk ≤ 4096 * i → Got c tk got → Win b c tk (gat got) by_ hv → (outs.length : Int) = i → (∀ x ∈ outs, x.f2.length ≤ 4096) → (e = false → d = 0) →
    ∃ got' tk' d' e' by' hv' outs', spec_l5Run.l0 l u1 u2 u3 u4 u5 u6 b c i got tk d e outs = some (got', tk', d', e', outs') ∧ impl_reorderAfter.l0 l l.length c i by_ hv (b + tk) e d outs = some (by', hv', b + tk', e', d', outs') ∧
      Got c tk' got' ∧ Win b c tk' (gat got') by' hv' ∧ 0 ≤ tk' ∧ tk' ≤ 16384000 ∧ (e' = false → d' = 0) := by
  induction s with
  | nil =>
    intro i tk d e got by_ hv outs h0 h1 hd h2 h3 hg hw h4 h5 h6
    have := suf_nil h0 hd
    rw [spec_l5Run.l0, if_neg this, impl_reorderAfter.l0, if_neg this]
    exact ⟨_, _, _, _, _, _, _, rfl, rfl, hg, hw, by omega, by omega, h6⟩
  | cons x t ih =>
    intro i tk d e got by_ hv outs h0 h1 hd h2 h3 hg hw h4 h5 h6
    obtain ⟨q1, q2, q3⟩ := suf_cons h0 hd z116
    obtain ⟨code, n, out, got', tk', d', e', by', hv', r1, r2, r3, r4, r5, r6, r7, r8⟩ := step_both b c d tk e got by_ hv x (hs x (by simp)) hb hc (by omega) hg hw
    have hi : 0 ≤ i ∧ i < l.length := ⟨h0, q1⟩
    rw [spec_l5Run.l0, if_pos q1, if_pos hi, q2, r1, some_bind, if_pos (by omega), impl_reorderAfter.l0, if_pos q1, if_pos hi, q2, r2, some_bind, if_pos (by omega), wi64_in (n := i + 1) (by omega) (by omega)]
    refine ih (fun y hy => hs y (by simp [hy])) (i + 1) tk' d' e' got' by' hv' _ (by omega) (by omega) q3 (by omega) (by omega) r6 r7 (len_snoc h4) (fun y hy => ?_) (r8 h6)
    rcases List.mem_append.1 hy with hy | hy
    · exact h5 y hy
    · rw [List.mem_singleton.1 hy]; exact r5
/-! ### what is held, as spans -/
def ext (h : List S122) (x : Int) : List S122 := if (h.length : Int) > 0 ∧ (rd z122 h ((h.length : Int) - 1)).f1 = x then h.set ((h.length : Int) - 1).toNat ⟨(rd z122 h ((h.length : Int) - 1)).f0, x + 1⟩ else h ++ [⟨x, x + 1⟩]
def hold (g : Int → Int) (b : Int) : List S122 → Int → Nat → List S122
  | h, _, 0 => h
  | h, i, n + 1 => hold g b (if 0 ≤ g i then ext h (b + i) else h) (i + 1) n
theorem hold_add (g : Int → Int) (b : Int) (m k : Nat) : ∀ (h : List S122) (i : Int), hold g b h i (m + k) = hold g b (hold g b h i m) (i + m) k := by
  induction m with
  | zero => intro h i; rw [Nat.zero_add]; simp [hold]
  | succ m ih =>
    intro h i
    rw [Nat.succ_add]; simp only [hold]
    rw [ih]; congr 1; omega
theorem hold_none (g : Int → Int) (b : Int) (k : Nat) : ∀ (h : List S122) (i : Int), (∀ p, i ≤ p → g p < 0) → hold g b h i k = h := by
  induction k with
  | zero => intro h i hg; rfl
  | succ k ih =>
    intro h i hg
    simp only [hold]
    rw [if_neg (by have := hg i (Int.le_refl _); omega), ih h (i + 1) fun p hp => hg p (by omega)]
structure Sps (h : List S122) (x : Int) : Prop where
  lt : ∀ j : Int, 0 ≤ j → j < h.length → (rd z122 h j).f0 < (rd z122 h j).f1
  le : ∀ j : Int, 0 ≤ j → j < h.length → (rd z122 h j).f1 ≤ x
  lt' : ∀ j : Int, 0 ≤ j → j + 1 < h.length → (rd z122 h j).f1 < x
theorem Sps.next {h : List S122} {x : Int} (s : Sps h x) : Sps h (x + 1) := ⟨s.lt, fun j a b => by have := s.le j a b; omega, fun j a b => by have := s.lt' j a b; omega⟩
theorem rd_snoc_lt {α : Type} {z v : α} {l : List α} {j : Int} (h0 : 0 ≤ j) (h : j < l.length) : rd z (l ++ [v]) j = rd z l j := by
  have : j.toNat < l.length := by omega
  simp [rd, List.getD_eq_getElem?_getD, List.getElem?_append_left this]
theorem rd_snoc_eq {α : Type} {z v : α} {l : List α} {j : Int} (h : j = l.length) : rd z (l ++ [v]) j = v := by
  subst h; simp [rd]
theorem ext_len (h : List S122) (x : Int) : (ext h x).length ≤ h.length + 1 := by unfold ext; split <;> simp
theorem Sps.ext {h : List S122} {x : Int} (s : Sps h x) : Sps (ext h x) (x + 1) := by
  unfold Go.AK.ext
  split
  · rename_i c
    have q : ∀ j : Int, 0 ≤ j → j < ((h.set ((h.length : Int) - 1).toNat ⟨(rd z122 h ((h.length : Int) - 1)).f0, x + 1⟩).length : Int) → (j = (h.length : Int) - 1 ∧ rd z122 (h.set ((h.length : Int) - 1).toNat ⟨(rd z122 h ((h.length : Int) - 1)).f0, x + 1⟩) j = ⟨(rd z122 h ((h.length : Int) - 1)).f0, x + 1⟩) ∨
        (j < (h.length : Int) - 1 ∧ rd z122 (h.set ((h.length : Int) - 1).toNat ⟨(rd z122 h ((h.length : Int) - 1)).f0, x + 1⟩) j = rd z122 h j) := fun j a b => by
      rw [List.length_set] at b
      by_cases e : j = (h.length : Int) - 1
      · subst e; exact .inl ⟨rfl, rd_set_eq (by omega) (by omega)⟩
      · exact .inr ⟨by omega, rd_set_ne (by omega) a (fun hh => e hh.symm)⟩
    have l1 := s.lt ((h.length : Int) - 1) (by omega) (by omega)
    refine ⟨fun j a b => ?_, fun j a b => ?_, fun j a b => ?_⟩
    · rcases q j a b with ⟨_, e2⟩ | ⟨e1, e2⟩
      · rw [e2]; show (rd z122 h ((h.length : Int) - 1)).f0 < x + 1; omega
      · rw [e2]; exact s.lt j a (by omega)
    · rcases q j a b with ⟨_, e2⟩ | ⟨e1, e2⟩
      · rw [e2]; exact Int.le_refl _
      · rw [e2]; have := s.le j a (by omega); omega
    · rcases q j a (by omega) with ⟨e1, e2⟩ | ⟨e1, e2⟩
      · rw [List.length_set] at b; omega
      · rw [e2]; have := s.le j a (by omega); omega
  · have q : ∀ j : Int, 0 ≤ j → j < ((h ++ [⟨x, x + 1⟩] : List S122).length : Int) → (j = h.length ∧ rd z122 (h ++ [⟨x, x + 1⟩]) j = ⟨x, x + 1⟩) ∨ (j < h.length ∧ rd z122 (h ++ [⟨x, x + 1⟩]) j = rd z122 h j) := fun j a b => by
      rw [List.length_append, List.length_singleton] at b
      by_cases e : j = h.length
      · exact .inl ⟨e, rd_snoc_eq e⟩
      · exact .inr ⟨by omega, rd_snoc_lt a (by omega)⟩
    refine ⟨fun j a b => ?_, fun j a b => ?_, fun j a b => ?_⟩
    · rcases q j a b with ⟨_, e2⟩ | ⟨e1, e2⟩
      · rw [e2]; show x < x + 1; omega
      · rw [e2]; exact s.lt j a e1
    · rcases q j a b with ⟨_, e2⟩ | ⟨e1, e2⟩
      · rw [e2]; exact Int.le_refl _
      · rw [e2]; have := s.le j a e1; omega
    · rcases q j a (by omega) with ⟨e1, e2⟩ | ⟨e1, e2⟩
      · rw [List.length_append, List.length_singleton] at b; omega
      · rw [e2]; have := s.le j a e1; omega
theorem place_is (l : List S122) (k m : Int) (hl : l.length ≤ 1099511627776) (h1 : ∀ j : Int, 0 ≤ j → j < m → (rd z122 l j).f1 < k) (h2 : ∀ j : Int, m ≤ j → j < l.length → k ≤ (rd z122 l j).f1) (n : Nat) : ∀ lo hi : Int, hi - lo ≤ n → 0 ≤ lo → lo ≤ m → m ≤ hi → hi ≤ l.length →
    impl_place_impl_Span_uint64_v2f145.l0 l k lo hi = some m := by
  induction n with
  | zero => intro lo hi a1 a2 a3 a4 a5; rw [impl_place_impl_Span_uint64_v2f145.l0, if_neg (by omega), show lo = m by omega]
  | succ n ih =>
    intro lo hi a1 a2 a3 a4 a5
    rw [impl_place_impl_Span_uint64_v2f145.l0]
    by_cases c : lo < hi
    · have e1 : IntKind.i64.wrap (lo + hi) = lo + hi := wi64_in (by omega) (by omega)
      have e2 : IntKind.i64.wrap ((lo + hi).tdiv 2) = (lo + hi) / 2 := by rw [Int.tdiv_eq_ediv_of_nonneg (by omega)]; exact wi64_in (by omega) (by omega)
      have e3 : IntKind.i64.wrap ((lo + hi) / 2 + 1) = (lo + hi) / 2 + 1 := wi64_in (by omega) (by omega)
      unfold impl_spanHi.f
      rw [if_pos c, e1, e2, e3, if_pos (by omega), some_bind]
      by_cases c2 : (rd z122 l ((lo + hi) / 2)).f1 < k
      · rw [if_pos c2, ih _ _ (by omega) (by omega) (by
          rcases Int.lt_or_le ((lo + hi) / 2) m with h | h
          · omega
          · have := h2 _ h (by omega); omega) a4 a5]
      · rw [if_neg c2, ih _ _ (by omega) (by omega) a3 (by
          rcases Int.lt_or_le ((lo + hi) / 2) m with h | h
          · have := h1 _ (by omega) h; omega
          · exact h) (by omega)]
    · rw [if_neg c, show lo = m by omega]
theorem add_is (h : List S122) (x : Int) (hx : 0 ≤ x ∧ x < 9223372036854775807) (hl : h.length ≤ 1048576) (s : Sps h x) : impl_add.f h x (x + 1) = some (ext h x) := by
  unfold impl_add.f impl_place_impl_Span_uint64_v2f145.f ext
  rw [if_neg (by omega)]
  by_cases c : (h.length : Int) > 0 ∧ (rd z122 h ((h.length : Int) - 1)).f1 = x
  · have l1 := s.lt ((h.length : Int) - 1) (by omega) (by omega)
    rw [if_pos c, place_is h x ((h.length : Int) - 1) (by omega) (fun j a b => s.lt' j a (by omega)) (fun j a b => by rw [show j = (h.length : Int) - 1 by omega]; omega) h.length 0 h.length (by omega) (by omega) (by omega) (by omega) (by omega), some_bind, some_bind, if_pos (by omega), if_pos (by omega)]
    have e1 : IntKind.i64.wrap ((h.length : Int) - 1 + 1) = h.length := (wi64_in (by omega) (by omega)).trans (by omega)
    have e2 : (if (rd z122 h ((h.length : Int) - 1)).f0 < x then (rd z122 h ((h.length : Int) - 1)).f0 else x) = (rd z122 h ((h.length : Int) - 1)).f0 := if_pos (by omega)
    have e3 : (if (rd z122 h ((h.length : Int) - 1)).f1 > x + 1 then (rd z122 h ((h.length : Int) - 1)).f1 else x + 1) = x + 1 := if_neg (by omega)
    have L : impl_add.l0 h (List.take ((h.length : Int) - 1).toNat h) ((h.length : Int) - 1) x (x + 1) = some ((h.length : Int), (rd z122 h ((h.length : Int) - 1)).f0, x + 1) := by
      rw [impl_add.l0, if_pos (by omega), if_pos (by omega), decide_eq_true (show (rd z122 h ((h.length : Int) - 1)).f0 ≤ x + 1 by omega), some_bind, if_pos rfl, if_pos (by omega), e1, e2, e3, impl_add.l0, if_neg (by omega), some_bind, if_neg nft]
    have hlt : (List.take ((h.length : Int) - 1).toNat h).length = h.length - 1 := by rw [List.length_take]; omega
    rw [L, some_bind, hlt, if_pos (by omega), if_pos (by omega), if_pos (by omega)]
    have : ((h.length : Int) - 1).toNat < h.length := by omega
    rw [List.set_eq_take_append_cons_drop, if_pos this, show ((h.length : Int) - 1).toNat + 1 = h.length by omega, show (h.length : Int).toNat = h.length by omega]
    simp
  · rw [if_neg c]
    have big : ∀ j : Int, 0 ≤ j → j < (h.length : Int) → (rd z122 h j).f1 < x := fun j a b => by
      by_cases e : j + 1 < h.length
      · exact s.lt' j a e
      · have := s.le j a b
        have : j = (h.length : Int) - 1 := by omega
        subst this
        have : (rd z122 h ((h.length : Int) - 1)).f1 ≠ x := fun hh => c ⟨by omega, hh⟩
        omega
    rw [place_is h x h.length (by omega) big (fun j a b => by omega) h.length 0 h.length (by omega) (by omega) (by omega) (by omega) (by omega), some_bind, some_bind, if_pos (by omega), if_pos (by omega), impl_add.l0, if_neg (by omega), some_bind, if_neg nft, some_bind]
    have hlt : (List.take ((h.length : Int)).toNat h).length = h.length := by rw [List.length_take]; omega
    rw [hlt, if_pos (by omega), if_pos (by omega), if_pos (by omega), show (h.length : Int).toNat = h.length by omega]
    simp
end Go.AK
