/- The law FnExactReorderRun: end, a step, the run, the law. Conditions: the kinds of the arguments. -/
import Derived.Test.YtlladicdmmdboaaPureReorderState3
set_option linter.unusedSimpArgs false
set_option linter.unusedVariables false
namespace Go.AK
open Go
theorem nft : ¬ (false = true) := by decide
theorem fin_spec (b c d tk at_ : Int) (e : Bool) (got : List Int) (u1 u2 : Int) (ul : List Int) (hb : 0 ≤ b ∧ b ≤ 4611686018427387904) (hl : got.length < 2199023255552) (n : Nat) : ∀ i : Int, 0 ≤ i → (got.length : Int) - i ≤ n →
    (spec_l5Fin.l0 at_ b c got tk d e u1 u2 ul i = some (.b []) ∧ ∃ p, i ≤ p ∧ p < got.length ∧ 0 ≤ gat got p ∧ at_ ≤ b + p) ∨ (spec_l5Fin.l0 at_ b c got tk d e u1 u2 ul i = some (.a ()) ∧ ∀ p, i ≤ p → 0 ≤ gat got p → b + p < at_) := by
  induction n with
  | zero =>
    intro i h0 h1
    refine .inr ⟨?_, fun p p0 p1 => ?_⟩
    · rw [spec_l5Fin.l0, if_neg (by omega)]
    · unfold gat at p1; rw [if_neg (by omega)] at p1; omega
  | succ n ih =>
    intro i h0 h1
    by_cases k : i < got.length
    · have ge : gat got i = rd 0 got i := if_pos k
      have e1 : IntKind.u64.wrap i = i := wu64_in (by omega) (by omega)
      have e2 : IntKind.u64.wrap (b + i) = b + i := wu64_in (by omega) (by omega)
      rw [spec_l5Fin.l0, if_pos k, if_pos (show 0 ≤ i ∧ i < got.length from ⟨h0, k⟩), ← ge, e1, e2]
      by_cases k2 : gat got i ≥ 0 ∧ b + i ≥ at_
      · rw [if_pos k2.1, some_bind, decide_eq_true k2.2, if_pos rfl]
        exact .inl ⟨rfl, i, Int.le_refl _, k, k2.1, k2.2⟩
      · have : ((if gat got i ≥ 0 then some (decide (b + i ≥ at_)) else some false) : Option Bool) = some false := by
          by_cases k3 : gat got i ≥ 0
          · rw [if_pos k3, decide_eq_false (fun h => k2 ⟨k3, h⟩)]
          · rw [if_neg k3]
        rw [this, some_bind, if_neg nft, wi64_in (by omega) (by omega)]
        rcases ih (i + 1) (by omega) (by omega) with ⟨r1, p, p0, p1, p2, p3⟩ | ⟨r1, r2⟩
        · exact .inl ⟨r1, p, by omega, p1, p2, p3⟩
        · refine .inr ⟨r1, fun p p0 p1 => ?_⟩
          by_cases ep : p = i
          · subst ep; omega
          · exact r2 p (by omega) p1
    · refine .inr ⟨?_, fun p p0 p1 => ?_⟩
      · rw [spec_l5Fin.l0, if_neg k]
      · unfold gat at p1; rw [if_neg (by omega)] at p1; omega
section
variable (b c d tk at_ : Int) (e : Bool) (g : Int → Int) (by_ : List Int) (hv : List Bool) (u1 u2 : Int) (ul : List Int) (hb : 0 ≤ b ∧ b ≤ 4611686018427387904) (hc : c ≤ 4096) (ht : 0 ≤ tk ∧ tk ≤ 1099511627776) (hw : Win b c tk g by_ hv)
include hb hc ht hw
theorem fin_impl_b (p : Int) (hp : p < tk + c) (hp1 : 0 ≤ g p) (n : Nat) : ∀ i : Int, tk ≤ i → i + n = p → impl_buffer_end.l0 at_ c by_ hv (b + tk) e d u1 u2 ul (b + i) = some (.b []) := by
  have hc0 := hw.hc
  have e1 : IntKind.u64.wrap (b + tk + c) = b + tk + c := wu64_in (by omega) (by omega)
  induction n with
  | zero =>
    intro i h0 h1
    obtain ⟨s0, s1, s2⟩ := hw.slot (b + i)
    obtain rfl : i = p := by omega
    rw [impl_buffer_end.l0, e1, if_pos (by omega), if_pos (show ¬ c = 0 by omega), Int.tmod_eq_emod_of_nonneg (by omega), if_pos (show 0 ≤ (b + i) % c ∧ (b + i) % c < hv.length from ⟨s0, s1⟩), hw.have_ i h0 (by omega), decide_eq_true hp1, if_pos rfl]
  | succ n ih =>
    intro i h0 h1
    obtain ⟨s0, s1, s2⟩ := hw.slot (b + i)
    rw [impl_buffer_end.l0, e1, if_pos (by omega), if_pos (show ¬ c = 0 by omega), Int.tmod_eq_emod_of_nonneg (by omega), if_pos (show 0 ≤ (b + i) % c ∧ (b + i) % c < hv.length from ⟨s0, s1⟩)]
    split
    · rfl
    · rw [wu64_in (n := b + i + 1) (by omega) (by omega), show b + i + 1 = b + (i + 1) by omega]
      exact ih (i + 1) (by omega) (by omega)
theorem fin_impl_a (hn : ∀ p, tk ≤ p → 0 ≤ g p → b + p < at_) (n : Nat) : ∀ x : Int, b + tk ≤ x → at_ ≤ x → b + tk + c - x ≤ n → impl_buffer_end.l0 at_ c by_ hv (b + tk) e d u1 u2 ul x = some (.a ()) := by
  have hc0 := hw.hc
  have e1 : IntKind.u64.wrap (b + tk + c) = b + tk + c := wu64_in (by omega) (by omega)
  induction n with
  | zero => intro x h0 h1 h2; rw [impl_buffer_end.l0, e1, if_neg (by omega)]
  | succ n ih =>
    intro x h0 h1 h2
    rw [impl_buffer_end.l0, e1]
    by_cases k : x < b + tk + c
    · obtain ⟨s0, s1, s2⟩ := hw.slot x
      have hx := hw.have_ (x - b) (by omega) (by omega)
      rw [show b + (x - b) = x by omega] at hx
      have hgx : ¬ 0 ≤ g (x - b) := fun h => by have := hn (x - b) (by omega) h; omega
      rw [if_pos k, if_pos (show ¬ c = 0 by omega), Int.tmod_eq_emod_of_nonneg (by omega), if_pos (show 0 ≤ x % c ∧ x % c < hv.length from ⟨s0, s1⟩), hx, decide_eq_false hgx, if_neg nft, wu64_in (n := x + 1) (by omega) (by omega)]
      exact ih (x + 1) (by omega) (by omega) (by omega)
    · rw [if_neg k]
end
theorem fin_both (b c d tk at_ : Int) (e : Bool) (got by_ : List Int) (hv : List Bool) (hb : 0 ≤ b ∧ b ≤ 4611686018427387904) (hc : c ≤ 4096) (ht : 0 ≤ tk ∧ tk ≤ 1099511627776) (ha : 0 ≤ at_ ∧ at_ ≤ 18446744073709551615) (hg : Got c tk got) (hw : Win b c tk (gat got) by_ hv) :
    ∃ code d' e', spec_l5Fin.f b c got tk d e at_ = some (code, 0, [], d', e') ∧ impl_buffer_end.f c by_ hv (b + tk) e d at_ = some (code, 0, [], e', d') ∧ ((e = false → d = 0) → e' = false → d' = 0) := by
  have hc0 := hw.hc
  have hlen := hg.len
  have e1 : IntKind.u64.wrap (b + tk + c) = b + tk + c := wu64_in (by omega) (by omega)
  have e2 : IntKind.u64.wrap c = c := wu64_in (by omega) (by omega)
  unfold spec_l5Fin.f impl_buffer_end.f
  rw [l5Read_is _ _ _ _ _ _ hb ht]
  simp only [some_bind]
  have J : ∃ j : Bool, ((if e = true then (if d ≠ at_ then some true else some (decide (at_ < b + tk))) else some (decide (at_ < b + tk))) : Option Bool) = some j ∧ (j = false → b + tk ≤ at_) := by
    cases e with
    | false => exact ⟨_, if_neg nft, fun h => by have := of_decide_eq_false h; omega⟩
    | true =>
      rw [if_pos rfl]
      by_cases k : d ≠ at_
      · rw [if_pos k]; exact ⟨_, rfl, fun h => by cases h⟩
      · rw [if_neg k]; exact ⟨_, rfl, fun h => by have := of_decide_eq_false h; omega⟩
  obtain ⟨j, J1, J2⟩ := J
  rw [J1, some_bind, some_bind]
  cases j with
  | true => rw [if_pos rfl, if_pos rfl]; exact ⟨_, _, _, rfl, rfl, fun h => h⟩
  | false =>
    have hat := J2 rfl
    rw [if_neg nft, if_neg nft, e1, e2, e1]
    rcases fin_spec b c d tk at_ e got 0 0 [] hb (by omega) got.length tk ht.1 (by omega) with ⟨r1, p, p0, p1, p2, p3⟩ | ⟨r1, r2⟩
    · have := fin_impl_b b c d tk at_ e (gat got) by_ hv 0 0 [] hb hc ht hw p (by omega) p2 (p - (at_ - b)).toNat (at_ - b) (by omega) (by omega)
      rw [show b + (at_ - b) = at_ by omega] at this
      rw [r1, this, some_bind, some_bind]
      exact ⟨_, _, _, rfl, rfl, fun h => h⟩
    · rw [r1, fin_impl_a b c d tk at_ e (gat got) by_ hv 0 0 [] hb hc ht hw r2 (b + tk + c - at_).toNat at_ hat (Int.le_refl _) (by omega), some_bind, some_bind]
      simp only
      by_cases k : at_ > b + tk + c
      · rw [if_pos k, if_pos k]; exact ⟨_, _, _, rfl, rfl, fun h => h⟩
      · rw [if_neg k, if_neg k]; exact ⟨_, _, _, rfl, rfl, fun _ h => by cases h⟩
theorem put_both (b c d tk at_ : Int) (e : Bool) (got by_ : List Int) (hv : List Bool) (l : List Int) (hb : 0 ≤ b ∧ b ≤ 4611686018427387904) (hc : c ≤ 4096) (ht : 0 ≤ tk ∧ tk ≤ 1099511627776) (ha : 0 ≤ at_ ∧ at_ ≤ 18446744073709551615) (hl : l.length ≤ 1048576) (hl2 : ∀ x ∈ l, 0 ≤ x ∧ x ≤ 255) (hg : Got c tk got) (hw : Win b c tk (gat got) by_ hv) :
    ∃ code n got' by' hv', spec_l5Put.f b c got tk d e at_ l = some (code, n, [], got') ∧ impl_buffer_put.f c by_ hv (b + tk) e d at_ l = some (code, n, [], by', hv') ∧ Got c tk got' ∧ Win b c tk (gat got') by' hv' := by
  have hc0 := hw.hc
  have e1 : IntKind.u64.wrap (b + tk + c) = b + tk + c := wu64_in (by omega) (by omega)
  have e2 : IntKind.u64.wrap c = c := wu64_in (by omega) (by omega)
  have e3 : IntKind.u64.wrap (l.length : Int) = l.length := wu64_in (by omega) (by omega)
  unfold spec_l5Put.f impl_buffer_put.f
  rw [l5Read_is _ _ _ _ _ _ hb ht, e1, e2, e3]
  simp only [some_bind, e1]
  by_cases k1 : l.length < 1 ∨ l.length > 32
  · have S : ((if (l.length : Int) < 1 then some true else some (decide ((l.length : Int) > 32))) : Option Bool) = some true := by
      split
      · rfl
      · rw [decide_eq_true (by omega)]
    have I : ((if (l.length : Int) = 0 then some true else some (decide ((l.length : Int) > 32))) : Option Bool) = some true := by
      split
      · rfl
      · rw [decide_eq_true (by omega)]
    rw [S, I, some_bind, some_bind, if_pos rfl, if_pos rfl]
    exact ⟨_, _, _, _, _, rfl, rfl, hg, hw⟩
  rw [if_neg (show ¬ (l.length : Int) < 1 by omega), if_neg (show ¬ (l.length : Int) = 0 by omega), decide_eq_false (show ¬ (l.length : Int) > 32 by omega), some_bind, some_bind, if_neg nft, if_neg nft]
  by_cases k2 : at_ > b + tk + c ∨ (l.length : Int) > b + tk + c - at_
  · have S : ((if at_ > b + tk + c then some true else some (decide ((l.length : Int) > IntKind.u64.wrap (b + tk + c - at_)))) : Option Bool) = some true := by
      split
      · rfl
      · rw [wu64_in (by omega) (by omega), decide_eq_true (by omega)]
    rw [S, some_bind, some_bind, if_pos rfl, if_pos rfl]
    exact ⟨_, _, _, _, _, rfl, rfl, hg, hw⟩
  rw [if_neg (show ¬ at_ > b + tk + c by omega), wu64_in (n := b + tk + c - at_) (by omega) (by omega), decide_eq_false (show ¬ (l.length : Int) > b + tk + c - at_ by omega), some_bind, some_bind, if_neg nft, if_neg nft]
  obtain ⟨j, J⟩ : ∃ j : Bool, ((if e = true then some (decide (IntKind.u64.wrap (at_ + l.length) > d)) else some false) : Option Bool) = some j := by
    cases e
    · exact ⟨_, if_neg nft⟩
    · exact ⟨_, if_pos rfl⟩
  rw [J, some_bind, some_bind]
  cases j with
  | true => rw [if_pos rfl, if_pos rfl]; exact ⟨_, _, _, _, _, rfl, rfl, hg, hw⟩
  | false =>
    rw [if_neg nft, if_neg nft]
    obtain ⟨n', got', by', hv', r1, r2, r3, r4⟩ := put_loop b c tk at_ l d e 0 0 0 0 [] [] hb hc ht (by omega) hl2 ha.1 (by omega) l 0 0 got by_ hv (by omega) (by omega) rfl hg hw (by omega) (by omega)
    rw [r1, r2, some_bind, some_bind]
    exact ⟨_, _, _, _, _, rfl, rfl, r3, r4⟩
end Go.AK
