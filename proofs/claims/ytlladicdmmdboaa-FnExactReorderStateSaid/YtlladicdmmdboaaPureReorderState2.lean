/- The law FnExactReorderRun: put, take and end, both sides. Conditions: none beyond bounds. -/
import Derived.Test.YtlladicdmmdboaaPureReorderState1
set_option linter.unusedSimpArgs false
set_option linter.unusedVariables false
namespace Go.AK
open Go
theorem l5Read_is (b c : Int) (got : List Int) (tk d : Int) (e : Bool) (hb : 0 ≤ b ∧ b ≤ 4611686018427387904) (ht : 0 ≤ tk ∧ tk ≤ 1099511627776) : spec_l5Read.f b c got tk d e = some (b + tk) := by
  unfold spec_l5Read.f
  rw [wu64_in (n := tk) (by omega) (by omega), wu64_in (by omega) (by omega)]
theorem put_loop (b c tk at_ : Int) (l2 : List Int) (d : Int) (e : Bool) (u1 u2 w1 w2 : Int) (ul wl : List Int) (hb : 0 ≤ b ∧ b ≤ 4611686018427387904) (hc : c ≤ 4096) (ht : 0 ≤ tk ∧ tk ≤ 1099511627776) (hl : l2.length ≤ 32) (hl2 : ∀ x ∈ l2, 0 ≤ x ∧ x ≤ 255) (ha : 0 ≤ at_) (hat : at_ + l2.length ≤ b + tk + c) (s : List Int) :
    ∀ (i n : Int) (got by_ : List Int) (hv : List Bool), 0 ≤ i → i ≤ l2.length → l2.drop i.toNat = s → Got c tk got → Win b c tk (gat got) by_ hv → 0 ≤ n → n ≤ i →
    ∃ n' got' by' hv', spec_l5Put.l0 l2 at_ b c tk d e u1 u2 ul n i got = some (n', got') ∧ impl_buffer_put.l0 l2 at_ l2.length c (b + tk) e d w1 w2 wl n i by_ hv = some (n', by', hv') ∧ Got c tk got' ∧ Win b c tk (gat got') by' hv' := by
  induction s with
  | nil =>
    intro i n got by_ hv h0 h1 hd hg hw hn0 hn1
    have := suf_nil h0 hd
    rw [spec_l5Put.l0, if_neg this, impl_buffer_put.l0, if_neg this]
    exact ⟨_, _, _, _, rfl, rfl, hg, hw⟩
  | cons x t ih =>
    intro i n got by_ hv h0 h1 hd hg hw hn0 hn1
    obtain ⟨q1, q2, q3⟩ := suf_cons h0 hd 0
    have hx : 0 ≤ x ∧ x ≤ 255 := hl2 x (by have := List.mem_of_mem_drop (l := l2) (i := i.toNat) (a := x) (by rw [hd]; simp); exact this)
    have e1 : IntKind.u64.wrap i = i := wu64_in (by omega) (by omega)
    have e2 : IntKind.u64.wrap (at_ + i) = at_ + i := wu64_in (by omega) (by omega)
    have hc0 := hw.hc
    have hi : 0 ≤ i ∧ i < l2.length := ⟨h0, q1⟩
    by_cases k : at_ + i < b + tk
    · have S : spec_l5Put.l0 l2 at_ b c tk d e u1 u2 ul n i got = spec_l5Put.l0 l2 at_ b c tk d e u1 u2 ul n (i + 1) got := by
        conv => lhs; rw [spec_l5Put.l0]
        rw [if_pos q1, l5Read_is b c got tk d e hb ht, some_bind, e1, e2, if_pos k, some_bind, wi64_in (n := i + 1) (by omega) (by omega)]
      have I : impl_buffer_put.l0 l2 at_ l2.length c (b + tk) e d w1 w2 wl n i by_ hv = impl_buffer_put.l0 l2 at_ l2.length c (b + tk) e d w1 w2 wl n (i + 1) by_ hv := by
        conv => lhs; rw [impl_buffer_put.l0]
        rw [if_pos q1, if_pos hi, e1, e2, if_neg (show ¬ at_ + i ≥ b + tk by omega), some_bind, if_neg (by decide), some_bind, wi64_in (n := i + 1) (by omega) (by omega)]
      rw [S, I]
      exact ih (i + 1) n got by_ hv (by omega) (by omega) q3 hg hw hn0 (by omega)
    · obtain ⟨rel, hr⟩ : ∃ rel, at_ + i = b + rel := ⟨at_ + i - b, by omega⟩
      have e3 : IntKind.u64.wrap (at_ + i - b) = rel := (wu64_in (by omega) (by omega)).trans (by omega)
      have e4 : IntKind.i64.wrap rel = rel := wi64_in (by omega) (by omega)
      have e5 : (at_ + i).tmod c = (b + rel) % c := (Int.tmod_eq_emod_of_nonneg (by omega)).trans (by rw [hr])
      have hr0 : tk ≤ rel := by omega
      have hr1 : rel < tk + c := by omega
      obtain ⟨s0, s1, s2⟩ := hw.slot (b + rel)
      obtain ⟨y, y1, y2, y3, y4⟩ := ext_loop c tk at_ n i b c 0 tk d e u1 u2 ul rel (by omega) hr1 (by omega) (max (rel + 1) got.length - got.length).toNat got hg (by omega)
      have hy : gat y rel = rd 0 y rel := if_pos y3
      have hh := hw.have_ rel hr0 hr1
      rw [← y4 rel (by omega)] at hh
      by_cases v : rd 0 y rel < 0
      · have S : spec_l5Put.l0 l2 at_ b c tk d e u1 u2 ul n i got = spec_l5Put.l0 l2 at_ b c tk d e u1 u2 ul (n + 1) (i + 1) (y.set rel.toNat x) := by
          conv => lhs; rw [spec_l5Put.l0]
          rw [if_pos q1, l5Read_is b c got tk d e hb ht, some_bind, e1, e2, if_neg k, e3, e4, y1, some_bind, if_pos (show 0 ≤ rel ∧ rel < y.length from ⟨by omega, y3⟩), if_pos v, if_pos hi, q2, some_bind, wi64_in (n := i + 1) (by omega) (by omega), wi64_in (n := n + 1) (by omega) (by omega), wi64_in (n := x) (by omega) (by omega)]
        have I : impl_buffer_put.l0 l2 at_ l2.length c (b + tk) e d w1 w2 wl n i by_ hv = impl_buffer_put.l0 l2 at_ l2.length c (b + tk) e d w1 w2 wl (n + 1) (i + 1) (by_.set ((b + rel) % c).toNat x) (hv.set ((b + rel) % c).toNat true) := by
          conv => lhs; rw [impl_buffer_put.l0]
          rw [if_pos q1, if_pos hi, e1, e2, if_pos (show at_ + i ≥ b + tk by omega), e5, if_pos (show ¬ c = 0 by omega), if_pos (show 0 ≤ (b + rel) % c ∧ (b + rel) % c < hv.length from ⟨s0, s1⟩), hh, hy, decide_eq_false (show ¬ 0 ≤ rd 0 y rel by omega), some_bind, if_pos (by decide), if_pos (show ¬ c = 0 by omega),
            if_pos (show 0 ≤ (b + rel) % c ∧ (b + rel) % c < hv.length from ⟨s0, s1⟩), if_pos (show 0 ≤ (b + rel) % c ∧ (b + rel) % c < by_.length from ⟨s0, s2⟩), some_bind, q2, wi64_in (n := i + 1) (by omega) (by omega), wi64_in (n := n + 1) (by omega) (by omega)]
        rw [S, I]
        refine ih (i + 1) (n + 1) _ _ _ (by omega) (by omega) q3 ⟨by rw [List.length_set]; exact y2.len, fun z hz => ?_⟩ (hw.put hr0 hr1 hx.1 fun q hq => ?_) (by omega) (by omega)
        · rcases List.mem_or_eq_of_mem_set hz with hz | hz
          · exact y2.rng z hz
          · omega
        · rw [gat_set (by omega) y3 q (by omega), y4 q (by omega)]
      · have S : spec_l5Put.l0 l2 at_ b c tk d e u1 u2 ul n i got = spec_l5Put.l0 l2 at_ b c tk d e u1 u2 ul n (i + 1) y := by
          conv => lhs; rw [spec_l5Put.l0]
          rw [if_pos q1, l5Read_is b c got tk d e hb ht, some_bind, e1, e2, if_neg k, e3, e4, y1, some_bind, if_pos (show 0 ≤ rel ∧ rel < y.length from ⟨by omega, y3⟩), if_neg v, some_bind, wi64_in (n := i + 1) (by omega) (by omega)]
        have I : impl_buffer_put.l0 l2 at_ l2.length c (b + tk) e d w1 w2 wl n i by_ hv = impl_buffer_put.l0 l2 at_ l2.length c (b + tk) e d w1 w2 wl n (i + 1) by_ hv := by
          conv => lhs; rw [impl_buffer_put.l0]
          rw [if_pos q1, if_pos hi, e1, e2, if_pos (show at_ + i ≥ b + tk by omega), e5, if_pos (show ¬ c = 0 by omega), if_pos (show 0 ≤ (b + rel) % c ∧ (b + rel) % c < hv.length from ⟨s0, s1⟩), hh, hy, decide_eq_true (show 0 ≤ rd 0 y rel by omega), some_bind, if_neg (by decide), some_bind, wi64_in (n := i + 1) (by omega) (by omega)]
        rw [S, I]
        refine ih (i + 1) n y by_ hv (by omega) (by omega) q3 y2 ⟨hw.hc, hw.hb, hw.hh, fun p p0 p1 => ?_, fun p p0 p1 p2 => ?_, fun p p0 => ?_⟩ hn0 (by omega)
        · rw [y4 p (by omega)]; exact hw.have_ p p0 p1
        · rw [y4 p (by omega)] at p2 ⊢; exact hw.byte p p0 p1 p2
        · rw [y4 p (by omega)]; exact hw.top p p0
end Go.AK
