/- The buffer (a ring) does what the reference (a list with gaps) does. Conditions: bounds. -/
import Derived.Test.YtlladicdmmdboaaUFnReorder3
import Derived.Test.YtlladicdmmdboaaAk2
set_option linter.unusedSimpArgs false
set_option linter.unusedVariables false
namespace Go.AK
open Go
/-- What lies at a place: -1 for nothing. -/
def gat (got : List Int) (p : Int) : Int := if p < got.length then rd 0 got p else -1
theorem l5At_is (a b : Int) (got : List Int) (c d : Int) (e : Bool) (p : Int) (h : 0 ≤ p) : spec_l5At.f a b got c d e p = some (gat got p) := by
  unfold spec_l5At.f gat
  by_cases q : p < got.length
  · rw [if_neg (by omega), if_pos ⟨h, q⟩, if_pos q]
  · rw [if_pos (by omega), if_neg q]
theorem slot_inj {b c p q : Int} (hc : 0 < c) (h : (b + p) % c = (b + q) % c) (h1 : p - q < c) (h2 : q - p < c) : p = q := by
  have h3 := Int.emod_emod_of_dvd
  have h4 : ((b + p) - (b + q)) % c = 0 := Int.emod_eq_emod_iff_emod_sub_eq_zero.1 h
  rw [show (b + p) - (b + q) = p - q by omega] at h4
  have h5 := Int.dvd_of_emod_eq_zero h4
  have : p - q = 0 := by
    rcases Int.lt_trichotomy (p - q) 0 with h6 | h6 | h6
    · have := Int.le_of_dvd (by omega) (Int.dvd_neg.2 h5); omega
    · exact h6
    · have := Int.le_of_dvd h6 h5; omega
  omega
structure Win (b c tk : Int) (g : Int → Int) (by_ : List Int) (hv : List Bool) : Prop where
  hc : 0 < c
  hb : (by_.length : Int) = c
  hh : (hv.length : Int) = c
  have_ : ∀ p, tk ≤ p → p < tk + c → rd false hv ((b + p) % c) = decide (0 ≤ g p)
  byte : ∀ p, tk ≤ p → p < tk + c → 0 ≤ g p → rd 0 by_ ((b + p) % c) = g p
  top : ∀ p, tk + c ≤ p → g p < 0
theorem Win.slot {b c tk : Int} {g : Int → Int} {by_ : List Int} {hv : List Bool} (h : Win b c tk g by_ hv) (x : Int) : 0 ≤ x % c ∧ x % c < hv.length ∧ x % c < by_.length := by
  have := Int.emod_nonneg x (show c ≠ 0 by have := h.hc; omega)
  have := Int.emod_lt_of_pos x h.hc
  rw [h.hb, h.hh]; omega
theorem rd_set_eq {α : Type} {z v : α} {l : List α} {i : Int} (h0 : 0 ≤ i) (h1 : i < l.length) : rd z (l.set i.toNat v) i = v := rd_put z h0 h1 v
theorem Win.put {b c tk : Int} {g g' : Int → Int} {by_ : List Int} {hv : List Bool} (h : Win b c tk g by_ hv) {p v : Int} (h0 : tk ≤ p) (h1 : p < tk + c) (hv0 : 0 ≤ v) (hg : ∀ q, tk ≤ q → g' q = if q = p then v else g q) :
    Win b c tk g' (by_.set ((b + p) % c).toNat v) (hv.set ((b + p) % c).toNat true) := by
  obtain ⟨s0, s1, s2⟩ := h.slot (b + p)
  refine ⟨h.hc, by rw [List.length_set]; exact h.hb, by rw [List.length_set]; exact h.hh, fun q q0 q1 => ?_, fun q q0 q1 q2 => ?_, fun q q0 => ?_⟩
  · rw [hg q q0]
    by_cases e : q = p
    · rw [if_pos e, e, rd_set_eq s0 s1]; simp [hv0]
    · rw [if_neg e, rd_set_ne s0 (h.slot _).1 (fun e' => e (slot_inj h.hc e' (by omega) (by omega)).symm)]
      exact h.have_ q q0 q1
  · rw [hg q q0] at q2 ⊢
    by_cases e : q = p
    · rw [if_pos e, e, rd_set_eq s0 s2]
    · rw [if_neg e] at q2 ⊢
      rw [rd_set_ne s0 (h.slot _).1 (fun e' => e (slot_inj h.hc e' (by omega) (by omega)).symm)]
      exact h.byte q q0 q1 q2
  · rw [hg q (by have := h.hc; omega), if_neg (by omega)]; exact h.top q q0
theorem Win.take {b c tk : Int} {g : Int → Int} {by_ : List Int} {hv : List Bool} (h : Win b c tk g by_ hv) : Win b c (tk + 1) g by_ (hv.set ((b + tk) % c).toNat false) := by
  obtain ⟨s0, s1, s2⟩ := h.slot (b + tk)
  have hc := h.hc
  refine ⟨hc, h.hb, by rw [List.length_set]; exact h.hh, fun q q0 q1 => ?_, fun q q0 q1 q2 => ?_, fun q q0 => h.top q (by omega)⟩
  · by_cases e : q = tk + c
    · have e2 : (b + q) % c = (b + tk) % c := by rw [e, ← Int.add_assoc, Int.add_emod_right]
      have := h.top q (by omega)
      rw [e2, rd_set_eq s0 s1]; symm; rw [decide_eq_false_iff_not]; omega
    · rw [rd_set_ne s0 (h.slot _).1 (fun e' => by have := slot_inj hc e' (by omega) (by omega); omega)]
      exact h.have_ q (by omega) (by omega)
  · by_cases e : q = tk + c
    · have := h.top q (by omega); omega
    · exact h.byte q (by omega) (by omega) q2
/-- What the list of the reference must be. -/
structure Got (c tk : Int) (got : List Int) : Prop where
  len : (got.length : Int) ≤ tk + c
  rng : ∀ x ∈ got, -1 ≤ x ∧ x ≤ 255
theorem gat_rng {c tk : Int} {got : List Int} (h : Got c tk got) {p : Int} (h0 : 0 ≤ p) : -1 ≤ gat got p ∧ gat got p ≤ 255 := by
  unfold gat
  split
  · exact h.rng _ (rd_mem h0 (by assumption))
  · omega
/-! ### put -/
theorem ext_loop (c tk : Int) (a1 a2 a3 a4 a5 a6 a7 a8 : Int) (e1 : Bool) (a9 a10 : Int) (l : List Int) (rel : Int) (hr0 : 0 ≤ rel) (hr : rel < tk + c) (hr2 : rel < 9223372036854) (n : Nat) : ∀ got : List Int, Got c tk got → (got.length : Int) + n = max (rel + 1) got.length →
    ∃ y, spec_l5Put.l1 a1 a2 a3 rel a4 a5 a7 a8 e1 a9 a10 l got = some y ∧ Got c tk y ∧ rel < y.length ∧ ∀ p, 0 ≤ p → gat y p = gat got p := by
  induction n with
  | zero =>
    intro got hg hn
    rw [spec_l5Put.l1, if_neg (by omega)]
    exact ⟨_, rfl, hg, by omega, fun _ _ => rfl⟩
  | succ n ih =>
    intro got hg hn
    rw [spec_l5Put.l1, if_pos (by omega), if_pos (by omega)]
    have hl : ((got ++ [-1]).length : Int) = got.length + 1 := by simp
    obtain ⟨y, h1, h2, h3, h4⟩ := ih (got ++ [-1]) ⟨by omega, fun x hx => by
      rcases List.mem_append.1 hx with hx | hx
      · exact hg.rng x hx
      · rw [List.mem_singleton.1 hx]; omega⟩ (by omega)
    refine ⟨y, h1, h2, h3, fun p hp => (h4 p hp).trans ?_⟩
    unfold gat
    by_cases q : p < got.length
    · rw [if_pos (by omega), if_pos q]
      have : p.toNat < got.length := by omega
      simp [rd, List.getElem?_append_left this]
    · rw [if_neg q]
      by_cases q2 : p = got.length
      · rw [if_pos (by omega)]; subst q2; simp [rd]
      · rw [if_neg (by omega)]
theorem gat_set {got : List Int} {p v : Int} (h0 : 0 ≤ p) (h1 : p < got.length) (q : Int) (hq : 0 ≤ q) : gat (got.set p.toNat v) q = if q = p then v else gat got q := by
  unfold gat
  rw [List.length_set]
  by_cases e : q = p
  · rw [if_pos e, e, if_pos h1, rd_set_eq h0 h1]
  · rw [if_neg e, rd_set_ne h0 hq (fun e' => e e'.symm)]
theorem l5Read_is (b c : Int) (got : List Int) (tk d : Int) (e : Bool) (hb : 0 ≤ b ∧ b ≤ 4611686018427387904) (ht : 0 ≤ tk ∧ tk ≤ 1099511627776) : spec_l5Read.f b c got tk d e = some (b + tk) := by
  unfold spec_l5Read.f
  rw [wu64_in (n := tk) (by omega) (by omega), wu64_in (by omega) (by omega)]
theorem put_loop (b c tk at_ : Int) (l2 : List Int) (d : Int) (e : Bool) (u1 u2 w1 w2 : Int) (ul wl : List Int) (hb : 0 ≤ b ∧ b ≤ 4611686018427387904) (hc : c ≤ 4096) (ht : 0 ≤ tk ∧ tk ≤ 1099511627776) (hl : l2.length ≤ 32) (hl2 : ∀ x ∈ l2, 0 ≤ x ∧ x ≤ 255) (ha : 0 ≤ at_) (hat : at_ + l2.length ≤ b + tk + c) (s : List Int) :
    ∀ (i n : Int) (got by_ : List Int) (hv : List Bool), 0 ≤ i → i ≤ l2.length → l2.drop i.toNat = s → Got c tk got → Win b c tk (gat got) by_ hv → 0 ≤ n → n ≤ i →
    ∃ n' got' by' hv', spec_l5Put.l0 l2 at_ b c tk d e u1 u2 ul n i got = some (n', got') ∧ impl_buffer_put.l0 l2 at_ l2.length c (b + tk) e d w1 w2 wl n i by_ hv = some (n', by', hv') ∧ Got c tk got' ∧ Win b c tk (gat got') by' hv' := by
  induction s with
  | nil =>
    intro i n got by_ hv h0 h1 hd hg hw hn0 hn1
    have := suf_nil h0 hd
    rw [spec_l5Put.l0, if_neg this, impl_buffer_put.l0, if_neg this]
    exact ⟨_, _, _, _, rfl, rfl, hg, hw⟩
  | cons x t ih =>
    intro i n got by_ hv h0 h1 hd hg hw hn0 hn1
    obtain ⟨q1, q2, q3⟩ := suf_cons h0 hd 0
    have hx : 0 ≤ x ∧ x ≤ 255 := hl2 x (by have := List.mem_of_mem_drop (l := l2) (i := i.toNat) (a := x) (by rw [hd]; simp); exact this)
    have e1 : IntKind.u64.wrap i = i := wu64_in (by omega) (by omega)
    have e2 : IntKind.u64.wrap (at_ + i) = at_ + i := wu64_in (by omega) (by omega)
    have hc0 := hw.hc
    have hi : 0 ≤ i ∧ i < l2.length := ⟨h0, q1⟩
    by_cases k : at_ + i < b + tk
    · have S : spec_l5Put.l0 l2 at_ b c tk d e u1 u2 ul n i got = spec_l5Put.l0 l2 at_ b c tk d e u1 u2 ul n (i + 1) got := by
        conv => lhs; rw [spec_l5Put.l0]
        rw [if_pos q1, l5Read_is b c got tk d e hb ht, some_bind, e1, e2, if_pos k, some_bind, wi64_in (n := i + 1) (by omega) (by omega)]
      have I : impl_buffer_put.l0 l2 at_ l2.length c (b + tk) e d w1 w2 wl n i by_ hv = impl_buffer_put.l0 l2 at_ l2.length c (b + tk) e d w1 w2 wl n (i + 1) by_ hv := by
        conv => lhs; rw [impl_buffer_put.l0]
        rw [if_pos q1, if_pos hi, e1, e2, if_neg (show ¬ at_ + i ≥ b + tk by omega), some_bind, if_neg (by decide), some_bind, wi64_in (n := i + 1) (by omega) (by omega)]
      rw [S, I]
      exact ih (i + 1) n got by_ hv (by omega) (by omega) q3 hg hw hn0 (by omega)
    · obtain ⟨rel, hr⟩ : ∃ rel, at_ + i = b + rel := ⟨at_ + i - b, by omega⟩
      have e3 : IntKind.u64.wrap (at_ + i - b) = rel := (wu64_in (by omega) (by omega)).trans (by omega)
      have e4 : IntKind.i64.wrap rel = rel := wi64_in (by omega) (by omega)
      have e5 : (at_ + i).tmod c = (b + rel) % c := (Int.tmod_eq_emod_of_nonneg (by omega)).trans (by rw [hr])
      have hr0 : tk ≤ rel := by omega
      have hr1 : rel < tk + c := by omega
      obtain ⟨s0, s1, s2⟩ := hw.slot (b + rel)
      obtain ⟨y, y1, y2, y3, y4⟩ := ext_loop c tk at_ n i b c 0 tk d e u1 u2 ul rel (by omega) hr1 (by omega) (max (rel + 1) got.length - got.length).toNat got hg (by omega)
      have hy : gat y rel = rd 0 y rel := if_pos y3
      have hh := hw.have_ rel hr0 hr1
      rw [← y4 rel (by omega)] at hh
      by_cases v : rd 0 y rel < 0
      · have S : spec_l5Put.l0 l2 at_ b c tk d e u1 u2 ul n i got = spec_l5Put.l0 l2 at_ b c tk d e u1 u2 ul (n + 1) (i + 1) (y.set rel.toNat x) := by
          conv => lhs; rw [spec_l5Put.l0]
          rw [if_pos q1, l5Read_is b c got tk d e hb ht, some_bind, e1, e2, if_neg k, e3, e4, y1, some_bind, if_pos (show 0 ≤ rel ∧ rel < y.length from ⟨by omega, y3⟩), if_pos v, if_pos hi, q2, some_bind, wi64_in (n := i + 1) (by omega) (by omega), wi64_in (n := n + 1) (by omega) (by omega), wi64_in (n := x) (by omega) (by omega)]
        have I : impl_buffer_put.l0 l2 at_ l2.length c (b + tk) e d w1 w2 wl n i by_ hv = impl_buffer_put.l0 l2 at_ l2.length c (b + tk) e d w1 w2 wl (n + 1) (i + 1) (by_.set ((b + rel) % c).toNat x) (hv.set ((b + rel) % c).toNat true) := by
          conv => lhs; rw [impl_buffer_put.l0]
          rw [if_pos q1, if_pos hi, e1, e2, if_pos (show at_ + i ≥ b + tk by omega), e5, if_pos (show ¬ c = 0 by omega), if_pos (show 0 ≤ (b + rel) % c ∧ (b + rel) % c < hv.length from ⟨s0, s1⟩), hh, hy, decide_eq_false (show ¬ 0 ≤ rd 0 y rel by omega), some_bind, if_pos (by decide), if_pos (show ¬ c = 0 by omega),
            if_pos (show 0 ≤ (b + rel) % c ∧ (b + rel) % c < hv.length from ⟨s0, s1⟩), if_pos (show 0 ≤ (b + rel) % c ∧ (b + rel) % c < by_.length from ⟨s0, s2⟩), some_bind, q2, wi64_in (n := i + 1) (by omega) (by omega), wi64_in (n := n + 1) (by omega) (by omega)]
        rw [S, I]
        refine ih (i + 1) (n + 1) _ _ _ (by omega) (by omega) q3 ⟨by rw [List.length_set]; exact y2.len, fun z hz => ?_⟩ (hw.put hr0 hr1 hx.1 fun q hq => ?_) (by omega) (by omega)
        · rcases List.mem_or_eq_of_mem_set hz with hz | hz
          · exact y2.rng z hz
          · omega
        · rw [gat_set (by omega) y3 q (by omega), y4 q (by omega)]
      · have S : spec_l5Put.l0 l2 at_ b c tk d e u1 u2 ul n i got = spec_l5Put.l0 l2 at_ b c tk d e u1 u2 ul n (i + 1) y := by
          conv => lhs; rw [spec_l5Put.l0]
          rw [if_pos q1, l5Read_is b c got tk d e hb ht, some_bind, e1, e2, if_neg k, e3, e4, y1, some_bind, if_pos (show 0 ≤ rel ∧ rel < y.length from ⟨by omega, y3⟩), if_neg v, some_bind, wi64_in (n := i + 1) (by omega) (by omega)]
        have I : impl_buffer_put.l0 l2 at_ l2.length c (b + tk) e d w1 w2 wl n i by_ hv = impl_buffer_put.l0 l2 at_ l2.length c (b + tk) e d w1 w2 wl n (i + 1) by_ hv := by
          conv => lhs; rw [impl_buffer_put.l0]
          rw [if_pos q1, if_pos hi, e1, e2, if_pos (show at_ + i ≥ b + tk by omega), e5, if_pos (show ¬ c = 0 by omega), if_pos (show 0 ≤ (b + rel) % c ∧ (b + rel) % c < hv.length from ⟨s0, s1⟩), hh, hy, decide_eq_true (show 0 ≤ rd 0 y rel by omega), some_bind, if_neg (by decide), some_bind, wi64_in (n := i + 1) (by omega) (by omega)]
        rw [S, I]
        refine ih (i + 1) n y by_ hv (by omega) (by omega) q3 y2 ⟨hw.hc, hw.hb, hw.hh, fun p p0 p1 => ?_, fun p p0 p1 p2 => ?_, fun p p0 => ?_⟩ hn0 (by omega)
        · rw [y4 p (by omega)]; exact hw.have_ p p0 p1
        · rw [y4 p (by omega)] at p2 ⊢; exact hw.byte p p0 p1 p2
        · rw [y4 p (by omega)]; exact hw.top p p0
theorem next_spec (b c d tk : Int) (e : Bool) (got : List Int) (hl : got.length < 2199023255552) (n : Nat) : ∀ i : Int, 0 ≤ i → i ≤ 2199023255552 → (got.length : Int) - i ≤ n → ∃ q, spec_l5Next.l0 b c got tk d e i = some q ∧ i ≤ q ∧ (q ≤ i ∨ q ≤ got.length) ∧ (∀ p, i ≤ p → p < q → 0 ≤ gat got p) ∧ gat got q < 0 := by
  induction n with
  | zero =>
    intro i h0 h1 h2
    have : gat got i = -1 := if_neg (by omega)
    rw [spec_l5Next.l0, l5At_is _ _ _ _ _ _ _ h0, some_bind, this, if_neg (by omega)]
    exact ⟨i, rfl, Int.le_refl _, .inl (Int.le_refl _), fun p p0 p1 => by omega, by omega⟩
  | succ n ih =>
    intro i h0 h1 h2
    rw [spec_l5Next.l0, l5At_is _ _ _ _ _ _ _ h0, some_bind]
    by_cases k : gat got i ≥ 0
    · have : i < got.length := by
        unfold gat at k
        split at k
        · assumption
        · omega
      rw [if_pos k, wi64_in (by omega) (by omega)]
      obtain ⟨q, q1, q2, q3, q4, q5⟩ := ih (i + 1) (by omega) (by omega) (by omega)
      refine ⟨q, q1, by omega, .inr (by omega), fun p p0 p1 => ?_, q5⟩
      by_cases e : p = i
      · rw [e]; exact k
      · exact q4 p (by omega) p1
    · rw [if_neg k]
      exact ⟨i, rfl, Int.le_refl _, .inl (Int.le_refl _), fun p p0 p1 => by omega, by omega⟩
theorem next_impl (b c d tk : Int) (e : Bool) (g : Int → Int) (by_ : List Int) (hv : List Bool) (hb : 0 ≤ b ∧ b ≤ 4611686018427387904) (hc : c ≤ 4096) (ht : 0 ≤ tk ∧ tk ≤ 1099511627776) (hw : Win b c tk g by_ hv) (q : Int) (hq : q ≤ tk + c) (hq1 : ∀ p, tk ≤ p → p < q → 0 ≤ g p) (hq2 : g q < 0) (n : Nat) :
    ∀ i : Int, tk ≤ i → i + n = q → impl_buffer_next.l0 c by_ hv (b + tk) e d (b + i) = some (b + q) := by
  have hc0 := hw.hc
  have e1 : IntKind.u64.wrap (b + tk + c) = b + tk + c := wu64_in (by omega) (by omega)
  induction n with
  | zero =>
    intro i h0 h1
    obtain ⟨s0, s1, s2⟩ := hw.slot (b + i)
    obtain rfl : i = q := by omega
    rw [impl_buffer_next.l0, e1]
    by_cases k : b + i < b + tk + c
    · rw [if_pos k, if_pos (show ¬ c = 0 by omega), Int.tmod_eq_emod_of_nonneg (by omega), if_pos (show 0 ≤ (b + i) % c ∧ (b + i) % c < hv.length from ⟨s0, s1⟩), hw.have_ i h0 (by omega), decide_eq_false (by omega), some_bind, if_neg (by decide)]
    · rw [if_neg k, some_bind, if_neg (by decide)]
  | succ n ih =>
    intro i h0 h1
    obtain ⟨s0, s1, s2⟩ := hw.slot (b + i)
    rw [impl_buffer_next.l0, e1, if_pos (by omega), if_pos (show ¬ c = 0 by omega), Int.tmod_eq_emod_of_nonneg (by omega), if_pos (show 0 ≤ (b + i) % c ∧ (b + i) % c < hv.length from ⟨s0, s1⟩), hw.have_ i h0 (by omega), decide_eq_true (hq1 i h0 (by omega)), some_bind, if_pos rfl,
      wu64_in (n := b + i + 1) (by omega) (by omega), show b + i + 1 = b + (i + 1) by omega]
    exact ih (i + 1) (by omega) (by omega)
theorem take_loop (b c d tk q a1 j : Int) (e : Bool) (got by_ : List Int) (u1 u2 u3 w1 w2 : Int) (ul wl : List Int) (hb : 0 ≤ b ∧ b ≤ 4611686018427387904) (hc : c ≤ 4096) (ht : 0 ≤ tk ∧ tk ≤ 1099511627776) (hg : Got c tk got) (hq : q ≤ tk + c) (hq1 : ∀ p, tk ≤ p → p < q → 0 ≤ gat got p)
    (hj : j = min (q - tk) (max 0 a1)) (n : Nat) : ∀ (i : Int) (hv : List Bool) (out : List Int), 0 ≤ i → i + n = j → (out.length : Int) = i → Win b c (tk + i) (gat got) by_ hv →
    ∃ hv' out', spec_l5Take.l0 a1 q b c got d e u1 u2 ul u3 (tk + i) i out = some (tk + j, j, out') ∧ impl_buffer_get.l0 j j c by_ e d w1 w2 wl i hv (b + tk + i) out = some (hv', b + tk + j, out') ∧ (out'.length : Int) = j ∧ Win b c (tk + j) (gat got) by_ hv' := by
  induction n with
  | zero =>
    intro i hv out h0 h1 h2 hw
    have h1 : i = j := by omega
    have S : spec_l5Take.l0 a1 q b c got d e u1 u2 ul u3 (tk + i) i out = some (tk + i, i, out) := by
      rw [spec_l5Take.l0]
      by_cases k : tk + i < q
      · rw [if_pos k, some_bind, decide_eq_false (show ¬ i < a1 by omega), if_neg (by decide)]
      · rw [if_neg k, some_bind, if_neg (by decide)]
    have I : impl_buffer_get.l0 j j c by_ e d w1 w2 wl i hv (b + tk + i) out = some (hv, b + tk + i, out) := by
      rw [impl_buffer_get.l0, if_neg (by omega)]
    rw [S, I, h1]
    exact ⟨hv, out, rfl, rfl, by omega, h1 ▸ hw⟩
  | succ n ih =>
    intro i hv out h0 h1 h2 hw
    have hc0 := hw.hc
    have k : tk + i < q := by omega
    have g0 := hq1 (tk + i) (by omega) k
    have g1 := (gat_rng hg (p := tk + i) (by omega)).2
    have gl : tk + i < got.length := by
      unfold gat at g0
      split at g0
      · assumption
      · omega
    have ge : gat got (tk + i) = rd 0 got (tk + i) := if_pos gl
    have hby := hw.byte (tk + i) (by omega) (by omega) g0
    obtain ⟨s0, s1, s2⟩ := hw.slot (b + (tk + i))
    have S : spec_l5Take.l0 a1 q b c got d e u1 u2 ul u3 (tk + i) i out = spec_l5Take.l0 a1 q b c got d e u1 u2 ul u3 (tk + (i + 1)) (i + 1) (out ++ [gat got (tk + i)]) := by
      conv => lhs; rw [spec_l5Take.l0]
      rw [if_pos k, some_bind, decide_eq_true (show i < a1 by omega), if_pos rfl, if_pos (show 0 ≤ tk + i ∧ tk + i < got.length from ⟨by omega, gl⟩), if_pos (by omega), ← ge, wu8_in g0 g1, wi64_in (n := tk + i + 1) (by omega) (by omega), wi64_in (n := i + 1) (by omega) (by omega), Int.add_assoc]
    have I : impl_buffer_get.l0 j j c by_ e d w1 w2 wl i hv (b + tk + i) out = impl_buffer_get.l0 j j c by_ e d w1 w2 wl (i + 1) (hv.set ((b + (tk + i)) % c).toNat false) (b + tk + (i + 1)) (out ++ [gat got (tk + i)]) := by
      conv => lhs; rw [impl_buffer_get.l0]
      rw [if_pos (by omega), if_pos (show ¬ c = 0 by omega), Int.tmod_eq_emod_of_nonneg (by omega), Int.add_assoc b tk i, if_pos (show 0 ≤ (b + (tk + i)) % c ∧ (b + (tk + i)) % c < by_.length from ⟨s0, s2⟩), if_pos (by omega), if_pos (show 0 ≤ (b + (tk + i)) % c ∧ (b + (tk + i)) % c < hv.length from ⟨s0, s1⟩), hby,
        wu64_in (n := i + 1) (by omega) (by omega), wu64_in (n := b + (tk + i) + 1) (by omega) (by omega), show b + (tk + i) + 1 = b + tk + (i + 1) by omega]
    rw [S, I]
    have hw' := hw.take
    rw [Int.add_assoc] at hw'
    exact ih (i + 1) _ _ (by omega) (by omega) (len_snoc h2) hw'
theorem take_both (b c d tk a1 : Int) (e : Bool) (got by_ : List Int) (hv : List Bool) (hb : 0 ≤ b ∧ b ≤ 4611686018427387904) (hc : c ≤ 4096) (ht : 0 ≤ tk ∧ tk ≤ 1099511627776) (ha : -9223372036854775808 ≤ a1 ∧ a1 ≤ 9223372036854775807) (hg : Got c tk got) (hw : Win b c tk (gat got) by_ hv) :
    ∃ code n out tk' hv', spec_l5Take.f b c got tk d e a1 = some (code, n, out, tk') ∧ impl_buffer_get.f c by_ hv (b + tk) e d a1 = some (code, n, out, hv', b + tk') ∧ tk ≤ tk' ∧ tk' ≤ tk + c ∧ out.length ≤ 4096 ∧ Win b c tk' (gat got) by_ hv' := by
  have hc0 := hw.hc
  have hlen := hg.len
  obtain ⟨q, q1, q2, q3, q4, q5⟩ := next_spec b c d tk e got (by omega) got.length tk ht.1 (by omega) (by omega)
  have hq : q ≤ tk + c := by omega
  have I1 := next_impl b c d tk e (gat got) by_ hv hb hc ht hw q hq q4 q5 (q - tk).toNat tk (Int.le_refl _) (by omega)
  obtain ⟨j, hj⟩ : ∃ j, j = min (q - tk) (max 0 a1) := ⟨_, rfl⟩
  obtain ⟨hv', out', T1, T2, T3, T4⟩ := take_loop b c d tk q a1 j e got by_ 0 0 0 0 0 [] [] hb hc ht hg hq q4 hj j.toNat 0 hv [] (by omega) (by omega) rfl (by rw [Int.add_zero]; exact hw)
  rw [Int.add_zero] at T1
  rw [Int.add_zero] at T2
  refine ⟨if j = 0 ∧ e = true ∧ b + (tk + j) = d then 15 else 0, j, out', tk + j, hv', ?_, ?_, by omega, by omega, by omega, T4⟩
  · unfold spec_l5Take.f spec_l5Next.f
    rw [q1, some_bind, some_bind, T1, some_bind]
    simp only
    by_cases j0 : j = 0
    · rw [if_pos j0]
      cases e with
      | false => rw [if_neg (by simp), if_neg (by simp), some_bind, if_neg (by decide), some_bind]
      | true =>
        rw [if_pos rfl, l5Read_is _ _ _ _ _ _ hb (by omega), some_bind, some_bind]
        by_cases k : b + (tk + j) = d
        · rw [decide_eq_true k, if_pos rfl, if_pos ⟨j0, rfl, k⟩, some_bind]
        · rw [decide_eq_false k, if_neg (by decide), if_neg (fun h => k h.2.2), some_bind]
    · rw [if_neg j0, if_neg (fun h => j0 h.1), some_bind, if_neg (by decide), some_bind]
  · unfold impl_buffer_get.f impl_buffer_next.f
    rw [I1, some_bind, some_bind]
    have e1 : IntKind.u64.wrap (b + q - (b + tk)) = q - tk := (wu64_in (by omega) (by omega)).trans (by omega)
    have e2 : IntKind.u64.wrap (if 0 > a1 then 0 else a1) = max 0 a1 := by split <;> rw [wu64_in (by omega) (by omega)] <;> omega
    have e3 : (if q - tk < max 0 a1 then q - tk else max 0 a1) = j := by split <;> omega
    rw [e1, e2, e3, T2, some_bind, wi64_in (n := j) (by omega) (by omega)]
    simp only
    rw [Int.add_assoc]
    by_cases j0 : j = 0
    · rw [if_pos j0]
      cases e with
      | false => rw [if_neg (by simp), if_neg (by simp), some_bind, if_neg (by decide), some_bind]
      | true =>
        rw [if_pos rfl, some_bind]
        by_cases k : b + (tk + j) = d
        · rw [decide_eq_true k, if_pos rfl, if_pos ⟨j0, rfl, k⟩, some_bind]
        · rw [decide_eq_false k, if_neg (by decide), if_neg (fun h => k h.2.2), some_bind]
    · rw [if_neg j0, if_neg (fun h => j0 h.1), some_bind, if_neg (by decide), some_bind]
end Go.AK
