/- The end of a stream, a step, and what is held, both sides. Conditions: bounds. -/
import Derived.Test.YtlladicdmmdboaaPureFnReorder0
set_option linter.unusedSimpArgs false
set_option linter.unusedVariables false
namespace Go.AK
open Go
theorem nft : ¬ (false = true) := by decide
theorem fin_spec (b c d tk at_ : Int) (e : Bool) (got : List Int) (u1 u2 : Int) (ul : List Int) (hb : 0 ≤ b ∧ b ≤ 4611686018427387904) (hl : got.length < 2199023255552) (n : Nat) : ∀ i : Int, 0 ≤ i → (got.length : Int) - i ≤ n →
    (spec_l5Fin.l0 at_ b c got tk d e u1 u2 ul i = some (.b []) ∧ ∃ p, i ≤ p ∧ p < got.length ∧ 0 ≤ gat got p ∧ at_ ≤ b + p) ∨ (spec_l5Fin.l0 at_ b c got tk d e u1 u2 ul i = some (.a ()) ∧ ∀ p, i ≤ p → 0 ≤ gat got p → b + p < at_) := by
  induction n with
  | zero =>
    intro i h0 h1
    refine .inr ⟨?_, fun p p0 p1 => ?_⟩
    · rw [spec_l5Fin.l0, if_neg (by omega)]
    · unfold gat at p1; rw [if_neg (by omega)] at p1; omega
  | succ n ih =>
    intro i h0 h1
    by_cases k : i < got.length
    · have ge : gat got i = rd 0 got i := if_pos k
      have e1 : IntKind.u64.wrap i = i := wu64_in (by omega) (by omega)
      have e2 : IntKind.u64.wrap (b + i) = b + i := wu64_in (by omega) (by omega)
      rw [spec_l5Fin.l0, if_pos k, if_pos (show 0 ≤ i ∧ i < got.length from ⟨h0, k⟩), ← ge, e1, e2]
      by_cases k2 : gat got i ≥ 0 ∧ b + i ≥ at_
      · rw [if_pos k2.1, some_bind, decide_eq_true k2.2, if_pos rfl]
        exact .inl ⟨rfl, i, Int.le_refl _, k, k2.1, k2.2⟩
      · have : ((if gat got i ≥ 0 then some (decide (b + i ≥ at_)) else some false) : Option Bool) = some false := by
          by_cases k3 : gat got i ≥ 0
          · rw [if_pos k3, decide_eq_false (fun h => k2 ⟨k3, h⟩)]
          · rw [if_neg k3]
        rw [this, some_bind, if_neg nft, wi64_in (by omega) (by omega)]
        rcases ih (i + 1) (by omega) (by omega) with ⟨r1, p, p0, p1, p2, p3⟩ | ⟨r1, r2⟩
        · exact .inl ⟨r1, p, by omega, p1, p2, p3⟩
        · refine .inr ⟨r1, fun p p0 p1 => ?_⟩
          by_cases ep : p = i
          · subst ep; omega
          · exact r2 p (by omega) p1
    · refine .inr ⟨?_, fun p p0 p1 => ?_⟩
      · rw [spec_l5Fin.l0, if_neg k]
      · unfold gat at p1; rw [if_neg (by omega)] at p1; omega
section
variable (b c d tk at_ : Int) (e : Bool) (g : Int → Int) (by_ : List Int) (hv : List Bool) (u1 u2 : Int) (ul : List Int) (hb : 0 ≤ b ∧ b ≤ 4611686018427387904) (hc : c ≤ 4096) (ht : 0 ≤ tk ∧ tk ≤ 1099511627776) (hw : Win b c tk g by_ hv)
include hb hc ht hw
theorem fin_impl_b (p : Int) (hp : p < tk + c) (hp1 : 0 ≤ g p) (n : Nat) : ∀ i : Int, tk ≤ i → i + n = p → impl_buffer_end.l0 at_ c by_ hv (b + tk) e d u1 u2 ul (b + i) = some (.b []) := by
  have hc0 := hw.hc
  have e1 : IntKind.u64.wrap (b + tk + c) = b + tk + c := wu64_in (by omega) (by omega)
  induction n with
  | zero =>
    intro i h0 h1
    obtain ⟨s0, s1, s2⟩ := hw.slot (b + i)
    obtain rfl : i = p := by omega
    rw [impl_buffer_end.l0, e1, if_pos (by omega), if_pos (show ¬ c = 0 by omega), Int.tmod_eq_emod_of_nonneg (by omega), if_pos (show 0 ≤ (b + i) % c ∧ (b + i) % c < hv.length from ⟨s0, s1⟩), hw.have_ i h0 (by omega), decide_eq_true hp1, if_pos rfl]
  | succ n ih =>
    intro i h0 h1
    obtain ⟨s0, s1, s2⟩ := hw.slot (b + i)
    rw [impl_buffer_end.l0, e1, if_pos (by omega), if_pos (show ¬ c = 0 by omega), Int.tmod_eq_emod_of_nonneg (by omega), if_pos (show 0 ≤ (b + i) % c ∧ (b + i) % c < hv.length from ⟨s0, s1⟩)]
    split
    · rfl
    · rw [wu64_in (n := b + i + 1) (by omega) (by omega), show b + i + 1 = b + (i + 1) by omega]
      exact ih (i + 1) (by omega) (by omega)
theorem fin_impl_a (hn : ∀ p, tk ≤ p → 0 ≤ g p → b + p < at_) (n : Nat) : ∀ x : Int, b + tk ≤ x → at_ ≤ x → b + tk + c - x ≤ n → impl_buffer_end.l0 at_ c by_ hv (b + tk) e d u1 u2 ul x = some (.a ()) := by
  have hc0 := hw.hc
  have e1 : IntKind.u64.wrap (b + tk + c) = b + tk + c := wu64_in (by omega) (by omega)
  induction n with
  | zero => intro x h0 h1 h2; rw [impl_buffer_end.l0, e1, if_neg (by omega)]
  | succ n ih =>
    intro x h0 h1 h2
    rw [impl_buffer_end.l0, e1]
    by_cases k : x < b + tk + c
    · obtain ⟨s0, s1, s2⟩ := hw.slot x
      have hx := hw.have_ (x - b) (by omega) (by omega)
      rw [show b + (x - b) = x by omega] at hx
      have hgx : ¬ 0 ≤ g (x - b) := fun h => by have := hn (x - b) (by omega) h; omega
      rw [if_pos k, if_pos (show ¬ c = 0 by omega), Int.tmod_eq_emod_of_nonneg (by omega), if_pos (show 0 ≤ x % c ∧ x % c < hv.length from ⟨s0, s1⟩), hx, decide_eq_false hgx, if_neg nft, wu64_in (n := x + 1) (by omega) (by omega)]
      exact ih (x + 1) (by omega) (by omega) (by omega)
    · rw [if_neg k]
end
theorem fin_both (b c d tk at_ : Int) (e : Bool) (got by_ : List Int) (hv : List Bool) (hb : 0 ≤ b ∧ b ≤ 4611686018427387904) (hc : c ≤ 4096) (ht : 0 ≤ tk ∧ tk ≤ 1099511627776) (ha : 0 ≤ at_ ∧ at_ ≤ 18446744073709551615) (hg : Got c tk got) (hw : Win b c tk (gat got) by_ hv) :
    ∃ code d' e', spec_l5Fin.f b c got tk d e at_ = some (code, 0, [], d', e') ∧ impl_buffer_end.f c by_ hv (b + tk) e d at_ = some (code, 0, [], e', d') ∧ ((e = false → d = 0) → e' = false → d' = 0) := by
  have hc0 := hw.hc
  have hlen := hg.len
  have e1 : IntKind.u64.wrap (b + tk + c) = b + tk + c := wu64_in (by omega) (by omega)
  have e2 : IntKind.u64.wrap c = c := wu64_in (by omega) (by omega)
  unfold spec_l5Fin.f impl_buffer_end.f
  rw [l5Read_is _ _ _ _ _ _ hb ht]
  simp only [some_bind]
  have J : ∃ j : Bool, ((if e = true then (if d ≠ at_ then some true else some (decide (at_ < b + tk))) else some (decide (at_ < b + tk))) : Option Bool) = some j ∧ (j = false → b + tk ≤ at_) := by
    cases e with
    | false => exact ⟨_, if_neg nft, fun h => by have := of_decide_eq_false h; omega⟩
    | true =>
      rw [if_pos rfl]
      by_cases k : d ≠ at_
      · rw [if_pos k]; exact ⟨_, rfl, fun h => by cases h⟩
      · rw [if_neg k]; exact ⟨_, rfl, fun h => by have := of_decide_eq_false h; omega⟩
  obtain ⟨j, J1, J2⟩ := J
  rw [J1, some_bind, some_bind]
  cases j with
  | true => rw [if_pos rfl, if_pos rfl]; exact ⟨_, _, _, rfl, rfl, fun h => h⟩
  | false =>
    have hat := J2 rfl
    rw [if_neg nft, if_neg nft, e1, e2, e1]
    rcases fin_spec b c d tk at_ e got 0 0 [] hb (by omega) got.length tk ht.1 (by omega) with ⟨r1, p, p0, p1, p2, p3⟩ | ⟨r1, r2⟩
    · have := fin_impl_b b c d tk at_ e (gat got) by_ hv 0 0 [] hb hc ht hw p (by omega) p2 (p - (at_ - b)).toNat (at_ - b) (by omega) (by omega)
      rw [show b + (at_ - b) = at_ by omega] at this
      rw [r1, this, some_bind, some_bind]
      exact ⟨_, _, _, rfl, rfl, fun h => h⟩
    · rw [r1, fin_impl_a b c d tk at_ e (gat got) by_ hv 0 0 [] hb hc ht hw r2 (b + tk + c - at_).toNat at_ hat (Int.le_refl _) (by omega), some_bind, some_bind]
      simp only
      by_cases k : at_ > b + tk + c
      · rw [if_pos k, if_pos k]; exact ⟨_, _, _, rfl, rfl, fun h => h⟩
      · rw [if_neg k, if_neg k]; exact ⟨_, _, _, rfl, rfl, fun _ h => by cases h⟩
theorem put_both (b c d tk at_ : Int) (e : Bool) (got by_ : List Int) (hv : List Bool) (l : List Int) (hb : 0 ≤ b ∧ b ≤ 4611686018427387904) (hc : c ≤ 4096) (ht : 0 ≤ tk ∧ tk ≤ 1099511627776) (ha : 0 ≤ at_ ∧ at_ ≤ 18446744073709551615) (hl : l.length ≤ 1048576) (hl2 : ∀ x ∈ l, 0 ≤ x ∧ x ≤ 255) (hg : Got c tk got) (hw : Win b c tk (gat got) by_ hv) :
    ∃ code n got' by' hv', spec_l5Put.f b c got tk d e at_ l = some (code, n, [], got') ∧ impl_buffer_put.f c by_ hv (b + tk) e d at_ l = some (code, n, [], by', hv') ∧ Got c tk got' ∧ Win b c tk (gat got') by' hv' := by
  have hc0 := hw.hc
  have e1 : IntKind.u64.wrap (b + tk + c) = b + tk + c := wu64_in (by omega) (by omega)
  have e2 : IntKind.u64.wrap c = c := wu64_in (by omega) (by omega)
  have e3 : IntKind.u64.wrap (l.length : Int) = l.length := wu64_in (by omega) (by omega)
  unfold spec_l5Put.f impl_buffer_put.f
  rw [l5Read_is _ _ _ _ _ _ hb ht, e1, e2, e3]
  simp only [some_bind, e1]
  by_cases k1 : l.length < 1 ∨ l.length > 32
  · have S : ((if (l.length : Int) < 1 then some true else some (decide ((l.length : Int) > 32))) : Option Bool) = some true := by
      split
      · rfl
      · rw [decide_eq_true (by omega)]
    have I : ((if (l.length : Int) = 0 then some true else some (decide ((l.length : Int) > 32))) : Option Bool) = some true := by
      split
      · rfl
      · rw [decide_eq_true (by omega)]
    rw [S, I, some_bind, some_bind, if_pos rfl, if_pos rfl]
    exact ⟨_, _, _, _, _, rfl, rfl, hg, hw⟩
  rw [if_neg (show ¬ (l.length : Int) < 1 by omega), if_neg (show ¬ (l.length : Int) = 0 by omega), decide_eq_false (show ¬ (l.length : Int) > 32 by omega), some_bind, some_bind, if_neg nft, if_neg nft]
  by_cases k2 : at_ > b + tk + c ∨ (l.length : Int) > b + tk + c - at_
  · have S : ((if at_ > b + tk + c then some true else some (decide ((l.length : Int) > IntKind.u64.wrap (b + tk + c - at_)))) : Option Bool) = some true := by
      split
      · rfl
      · rw [wu64_in (by omega) (by omega), decide_eq_true (by omega)]
    rw [S, some_bind, some_bind, if_pos rfl, if_pos rfl]
    exact ⟨_, _, _, _, _, rfl, rfl, hg, hw⟩
  rw [if_neg (show ¬ at_ > b + tk + c by omega), wu64_in (n := b + tk + c - at_) (by omega) (by omega), decide_eq_false (show ¬ (l.length : Int) > b + tk + c - at_ by omega), some_bind, some_bind, if_neg nft, if_neg nft]
  obtain ⟨j, J⟩ : ∃ j : Bool, ((if e = true then some (decide (IntKind.u64.wrap (at_ + l.length) > d)) else some false) : Option Bool) = some j := by
    cases e
    · exact ⟨_, if_neg nft⟩
    · exact ⟨_, if_pos rfl⟩
  rw [J, some_bind, some_bind]
  cases j with
  | true => rw [if_pos rfl, if_pos rfl]; exact ⟨_, _, _, _, _, rfl, rfl, hg, hw⟩
  | false =>
    rw [if_neg nft, if_neg nft]
    obtain ⟨n', got', by', hv', r1, r2, r3, r4⟩ := put_loop b c tk at_ l d e 0 0 0 0 [] [] hb hc ht (by omega) hl2 ha.1 (by omega) l 0 0 got by_ hv (by omega) (by omega) rfl hg hw (by omega) (by omega)
    rw [r1, r2, some_bind, some_bind]
    exact ⟨_, _, _, _, _, rfl, rfl, r3, r4⟩
structure EvOk (x : S116) : Prop where
  at_ : 0 ≤ x.f1 ∧ x.f1 ≤ 18446744073709551615
  len : x.f2.length ≤ 1048576
  byte : ∀ y ∈ x.f2, 0 ≤ y ∧ y ≤ 255
  n : -9223372036854775808 ≤ x.f3 ∧ x.f3 ≤ 9223372036854775807
theorem step_both (b c d tk : Int) (e : Bool) (got by_ : List Int) (hv : List Bool) (x : S116) (hx : EvOk x) (hb : 0 ≤ b ∧ b ≤ 4611686018427387904) (hc : c ≤ 4096) (ht : 0 ≤ tk ∧ tk ≤ 1099511627776) (hg : Got c tk got) (hw : Win b c tk (gat got) by_ hv) :
    ∃ code n out got' tk' d' e' by' hv', spec_l5Step.f b c got tk d e x.f0 x.f1 x.f2 x.f3 = some (code, n, out, got', tk', d', e') ∧ impl_buffer_act.f c by_ hv (b + tk) e d x.f0 x.f1 x.f2 x.f3 = some (code, n, out, by', hv', b + tk', e', d') ∧
      tk ≤ tk' ∧ tk' ≤ tk + c ∧ out.length ≤ 4096 ∧ Got c tk' got' ∧ Win b c tk' (gat got') by' hv' ∧ ((e = false → d = 0) → e' = false → d' = 0) := by
  have hc0 := hw.hc
  unfold spec_l5Step.f impl_buffer_act.f
  by_cases k1 : x.f0 = 1
  · obtain ⟨code, n, got', by', hv', r1, r2, r3, r4⟩ := put_both b c d tk x.f1 e got by_ hv x.f2 hb hc ht hx.at_ hx.len hx.byte hg hw
    rw [if_pos k1, if_pos k1, r1, r2, some_bind, some_bind]
    exact ⟨_, _, _, _, _, _, _, _, _, rfl, rfl, Int.le_refl _, by omega, by simp, r3, r4, fun h => h⟩
  · by_cases k2 : x.f0 = 2
    · obtain ⟨code, n, out, tk', hv', r1, r2, r3, r4, r5, r6⟩ := take_both b c d tk x.f3 e got by_ hv hb hc ht hx.n hg hw
      rw [if_neg k1, if_neg k1, if_pos k2, if_neg (show ¬ x.f0 = 3 by omega), if_pos k2, r1, r2, some_bind, some_bind]
      exact ⟨_, _, _, _, _, _, _, _, _, rfl, rfl, r3, r4, r5, ⟨by have := hg.len; show (got.length : Int) ≤ tk' + c; omega, hg.rng⟩, r6, fun h => h⟩
    · by_cases k3 : x.f0 = 3
      · obtain ⟨code, d', e', r1, r2, r3⟩ := fin_both b c d tk x.f1 e got by_ hv hb hc ht hx.at_ hg hw
        rw [if_neg k1, if_neg k1, if_neg k2, if_pos k3, if_pos k3, r1, r2, some_bind, some_bind]
        exact ⟨_, _, _, _, _, _, _, _, _, rfl, rfl, Int.le_refl _, by omega, by simp, hg, hw, r3⟩
      · rw [if_neg k1, if_neg k1, if_neg k2, if_neg k3, if_neg k3, if_neg k2]
        exact ⟨_, _, _, _, _, _, _, _, _, rfl, rfl, Int.le_refl _, by omega, by simp, hg, hw, fun h => h⟩
/-! ### what is held, as spans -/
def ext (h : List S122) (x : Int) : List S122 := if (h.length : Int) > 0 ∧ (rd z122 h ((h.length : Int) - 1)).f1 = x then h.set ((h.length : Int) - 1).toNat ⟨(rd z122 h ((h.length : Int) - 1)).f0, x + 1⟩ else h ++ [⟨x, x + 1⟩]
def hold (g : Int → Int) (b : Int) : List S122 → Int → Nat → List S122
  | h, _, 0 => h
  | h, i, n + 1 => hold g b (if 0 ≤ g i then ext h (b + i) else h) (i + 1) n
theorem hold_add (g : Int → Int) (b : Int) (m k : Nat) : ∀ (h : List S122) (i : Int), hold g b h i (m + k) = hold g b (hold g b h i m) (i + m) k := by
  induction m with
  | zero => intro h i; rw [Nat.zero_add]; simp [hold]
  | succ m ih =>
    intro h i
    rw [Nat.succ_add]; simp only [hold]
    rw [ih]; congr 1; omega
theorem hold_none (g : Int → Int) (b : Int) (k : Nat) : ∀ (h : List S122) (i : Int), (∀ p, i ≤ p → g p < 0) → hold g b h i k = h := by
  induction k with
  | zero => intro h i hg; rfl
  | succ k ih =>
    intro h i hg
    simp only [hold]
    rw [if_neg (by have := hg i (Int.le_refl _); omega), ih h (i + 1) fun p hp => hg p (by omega)]
structure Sps (h : List S122) (x : Int) : Prop where
  lt : ∀ j : Int, 0 ≤ j → j < h.length → (rd z122 h j).f0 < (rd z122 h j).f1
  le : ∀ j : Int, 0 ≤ j → j < h.length → (rd z122 h j).f1 ≤ x
  lt' : ∀ j : Int, 0 ≤ j → j + 1 < h.length → (rd z122 h j).f1 < x
theorem Sps.next {h : List S122} {x : Int} (s : Sps h x) : Sps h (x + 1) := ⟨s.lt, fun j a b => by have := s.le j a b; omega, fun j a b => by have := s.lt' j a b; omega⟩
theorem rd_snoc_lt {α : Type} {z v : α} {l : List α} {j : Int} (h0 : 0 ≤ j) (h : j < l.length) : rd z (l ++ [v]) j = rd z l j := by
  have : j.toNat < l.length := by omega
  simp [rd, List.getD_eq_getElem?_getD, List.getElem?_append_left this]
theorem rd_snoc_eq {α : Type} {z v : α} {l : List α} {j : Int} (h : j = l.length) : rd z (l ++ [v]) j = v := by
  subst h; simp [rd]
theorem ext_len (h : List S122) (x : Int) : (ext h x).length ≤ h.length + 1 := by unfold ext; split <;> simp
theorem Sps.ext {h : List S122} {x : Int} (s : Sps h x) : Sps (ext h x) (x + 1) := by
  unfold Go.AK.ext
  split
  · rename_i c
    have q : ∀ j : Int, 0 ≤ j → j < ((h.set ((h.length : Int) - 1).toNat ⟨(rd z122 h ((h.length : Int) - 1)).f0, x + 1⟩).length : Int) → (j = (h.length : Int) - 1 ∧ rd z122 (h.set ((h.length : Int) - 1).toNat ⟨(rd z122 h ((h.length : Int) - 1)).f0, x + 1⟩) j = ⟨(rd z122 h ((h.length : Int) - 1)).f0, x + 1⟩) ∨
        (j < (h.length : Int) - 1 ∧ rd z122 (h.set ((h.length : Int) - 1).toNat ⟨(rd z122 h ((h.length : Int) - 1)).f0, x + 1⟩) j = rd z122 h j) := fun j a b => by
      rw [List.length_set] at b
      by_cases e : j = (h.length : Int) - 1
      · subst e; exact .inl ⟨rfl, rd_set_eq (by omega) (by omega)⟩
      · exact .inr ⟨by omega, rd_set_ne (by omega) a (fun hh => e hh.symm)⟩
    have l1 := s.lt ((h.length : Int) - 1) (by omega) (by omega)
    refine ⟨fun j a b => ?_, fun j a b => ?_, fun j a b => ?_⟩
    · rcases q j a b with ⟨_, e2⟩ | ⟨e1, e2⟩
      · rw [e2]; show (rd z122 h ((h.length : Int) - 1)).f0 < x + 1; omega
      · rw [e2]; exact s.lt j a (by omega)
    · rcases q j a b with ⟨_, e2⟩ | ⟨e1, e2⟩
      · rw [e2]; exact Int.le_refl _
      · rw [e2]; have := s.le j a (by omega); omega
    · rcases q j a (by omega) with ⟨e1, e2⟩ | ⟨e1, e2⟩
      · rw [List.length_set] at b; omega
      · rw [e2]; have := s.le j a (by omega); omega
  · have q : ∀ j : Int, 0 ≤ j → j < ((h ++ [⟨x, x + 1⟩] : List S122).length : Int) → (j = h.length ∧ rd z122 (h ++ [⟨x, x + 1⟩]) j = ⟨x, x + 1⟩) ∨ (j < h.length ∧ rd z122 (h ++ [⟨x, x + 1⟩]) j = rd z122 h j) := fun j a b => by
      rw [List.length_append, List.length_singleton] at b
      by_cases e : j = h.length
      · exact .inl ⟨e, rd_snoc_eq e⟩
      · exact .inr ⟨by omega, rd_snoc_lt a (by omega)⟩
    refine ⟨fun j a b => ?_, fun j a b => ?_, fun j a b => ?_⟩
    · rcases q j a b with ⟨_, e2⟩ | ⟨e1, e2⟩
      · rw [e2]; show x < x + 1; omega
      · rw [e2]; exact s.lt j a e1
    · rcases q j a b with ⟨_, e2⟩ | ⟨e1, e2⟩
      · rw [e2]; exact Int.le_refl _
      · rw [e2]; have := s.le j a e1; omega
    · rcases q j a (by omega) with ⟨e1, e2⟩ | ⟨e1, e2⟩
      · rw [List.length_append, List.length_singleton] at b; omega
      · rw [e2]; have := s.le j a e1; omega
theorem place_is (l : List S122) (k m : Int) (hl : l.length ≤ 1099511627776) (h1 : ∀ j : Int, 0 ≤ j → j < m → (rd z122 l j).f1 < k) (h2 : ∀ j : Int, m ≤ j → j < l.length → k ≤ (rd z122 l j).f1) (n : Nat) : ∀ lo hi : Int, hi - lo ≤ n → 0 ≤ lo → lo ≤ m → m ≤ hi → hi ≤ l.length →
    impl_place_impl_Span_uint64_v2f145.l0 l k lo hi = some m := by
  induction n with
  | zero => intro lo hi a1 a2 a3 a4 a5; rw [impl_place_impl_Span_uint64_v2f145.l0, if_neg (by omega), show lo = m by omega]
  | succ n ih =>
    intro lo hi a1 a2 a3 a4 a5
    rw [impl_place_impl_Span_uint64_v2f145.l0]
    by_cases c : lo < hi
    · have e1 : IntKind.i64.wrap (lo + hi) = lo + hi := wi64_in (by omega) (by omega)
      have e2 : IntKind.i64.wrap ((lo + hi).tdiv 2) = (lo + hi) / 2 := by rw [Int.tdiv_eq_ediv_of_nonneg (by omega)]; exact wi64_in (by omega) (by omega)
      have e3 : IntKind.i64.wrap ((lo + hi) / 2 + 1) = (lo + hi) / 2 + 1 := wi64_in (by omega) (by omega)
      unfold impl_spanHi.f
      rw [if_pos c, e1, e2, e3, if_pos (by omega), some_bind]
      by_cases c2 : (rd z122 l ((lo + hi) / 2)).f1 < k
      · rw [if_pos c2, ih _ _ (by omega) (by omega) (by
          rcases Int.lt_or_le ((lo + hi) / 2) m with h | h
          · omega
          · have := h2 _ h (by omega); omega) a4 a5]
      · rw [if_neg c2, ih _ _ (by omega) (by omega) a3 (by
          rcases Int.lt_or_le ((lo + hi) / 2) m with h | h
          · have := h1 _ (by omega) h; omega
          · exact h) (by omega)]
    · rw [if_neg c, show lo = m by omega]
theorem add_is (h : List S122) (x : Int) (hx : 0 ≤ x ∧ x < 9223372036854775807) (hl : h.length ≤ 1048576) (s : Sps h x) : impl_add.f h x (x + 1) = some (ext h x) := by
  unfold impl_add.f impl_place_impl_Span_uint64_v2f145.f ext
  rw [if_neg (by omega)]
  by_cases c : (h.length : Int) > 0 ∧ (rd z122 h ((h.length : Int) - 1)).f1 = x
  · have l1 := s.lt ((h.length : Int) - 1) (by omega) (by omega)
    rw [if_pos c, place_is h x ((h.length : Int) - 1) (by omega) (fun j a b => s.lt' j a (by omega)) (fun j a b => by rw [show j = (h.length : Int) - 1 by omega]; omega) h.length 0 h.length (by omega) (by omega) (by omega) (by omega) (by omega), some_bind, some_bind, if_pos (by omega), if_pos (by omega)]
    have e1 : IntKind.i64.wrap ((h.length : Int) - 1 + 1) = h.length := (wi64_in (by omega) (by omega)).trans (by omega)
    have e2 : (if (rd z122 h ((h.length : Int) - 1)).f0 < x then (rd z122 h ((h.length : Int) - 1)).f0 else x) = (rd z122 h ((h.length : Int) - 1)).f0 := if_pos (by omega)
    have e3 : (if (rd z122 h ((h.length : Int) - 1)).f1 > x + 1 then (rd z122 h ((h.length : Int) - 1)).f1 else x + 1) = x + 1 := if_neg (by omega)
    have L : impl_add.l0 h (List.take ((h.length : Int) - 1).toNat h) ((h.length : Int) - 1) x (x + 1) = some ((h.length : Int), (rd z122 h ((h.length : Int) - 1)).f0, x + 1) := by
      rw [impl_add.l0, if_pos (by omega), if_pos (by omega), decide_eq_true (show (rd z122 h ((h.length : Int) - 1)).f0 ≤ x + 1 by omega), some_bind, if_pos rfl, if_pos (by omega), e1, e2, e3, impl_add.l0, if_neg (by omega), some_bind, if_neg nft]
    have hlt : (List.take ((h.length : Int) - 1).toNat h).length = h.length - 1 := by rw [List.length_take]; omega
    rw [L, some_bind, hlt, if_pos (by omega), if_pos (by omega), if_pos (by omega)]
    have : ((h.length : Int) - 1).toNat < h.length := by omega
    rw [List.set_eq_take_append_cons_drop, if_pos this, show ((h.length : Int) - 1).toNat + 1 = h.length by omega, show (h.length : Int).toNat = h.length by omega]
    simp
  · rw [if_neg c]
    have big : ∀ j : Int, 0 ≤ j → j < (h.length : Int) → (rd z122 h j).f1 < x := fun j a b => by
      by_cases e : j + 1 < h.length
      · exact s.lt' j a e
      · have := s.le j a b
        have : j = (h.length : Int) - 1 := by omega
        subst this
        have : (rd z122 h ((h.length : Int) - 1)).f1 ≠ x := fun hh => c ⟨by omega, hh⟩
        omega
    rw [place_is h x h.length (by omega) big (fun j a b => by omega) h.length 0 h.length (by omega) (by omega) (by omega) (by omega) (by omega), some_bind, some_bind, if_pos (by omega), if_pos (by omega), impl_add.l0, if_neg (by omega), some_bind, if_neg nft, some_bind]
    have hlt : (List.take ((h.length : Int)).toNat h).length = h.length := by rw [List.length_take]; omega
    rw [hlt, if_pos (by omega), if_pos (by omega), if_pos (by omega), show (h.length : Int).toNat = h.length by omega]
    simp
theorem view_impl_loop (b c d tk : Int) (e : Bool) (g : Int → Int) (by_ : List Int) (hv : List Bool) (u7 u8 u10 u11 u12 u13 u15 u16 : Int) (u9 : List S122) (hb : 0 ≤ b ∧ b ≤ 4611686018427387904) (hc : c ≤ 4096) (ht : 0 ≤ tk ∧ tk ≤ 1099511627776) (hw : Win b c tk g by_ hv) (n : Nat) :
    ∀ (i : Int) (h : List S122), tk ≤ i → i + n = tk + c → (h.length : Int) ≤ i - tk → Sps h (b + i) → impl_buffer_view.l0 c by_ hv (b + tk) e d u7 u8 u9 u10 u11 u12 u13 u15 u16 (b + i) h = some (hold g b h i n) := by
  have hc0 := hw.hc
  have e1 : IntKind.u64.wrap (b + tk + c) = b + tk + c := wu64_in (by omega) (by omega)
  induction n with
  | zero => intro i h h0 h1 h2 hs; rw [impl_buffer_view.l0, e1, if_neg (by omega)]; rfl
  | succ n ih =>
    intro i h h0 h1 h2 hs
    have htm : (b + i).tmod c = (b + i) % c := Int.tmod_eq_emod_of_nonneg (by omega)
    obtain ⟨s0, s1, s2⟩ := hw.slot (b + i)
    have e2 : IntKind.u64.wrap (b + i + 1) = b + i + 1 := wu64_in (by omega) (by omega)
    rw [impl_buffer_view.l0, e1, if_pos (by omega), if_pos (by omega), htm, if_pos ⟨s0, s1⟩, hw.have_ i h0 (by omega), e2]
    simp only [hold]
    by_cases c2 : 0 ≤ g i
    · rw [decide_eq_true c2, if_pos rfl, if_pos c2, add_is h (b + i) (by omega) (by omega) hs, some_bind, some_bind, Int.add_assoc]
      have hx := ext_len h (b + i)
      have := hs.ext
      rw [Int.add_assoc] at this
      exact ih (i + 1) _ (by omega) (by omega) (by omega) this
    · rw [decide_eq_false c2, if_neg nft, if_neg c2, some_bind, Int.add_assoc]
      have := hs.next
      rw [Int.add_assoc] at this
      exact ih (i + 1) _ (by omega) (by omega) (by omega) this
theorem hold_len (g : Int → Int) (b : Int) (n : Nat) : ∀ (h : List S122) (i : Int), (hold g b h i n).length ≤ h.length + n := by
  induction n with
  | zero => intro h i; exact Nat.le_refl _
  | succ n ih =>
    intro h i
    simp only [hold]
    have h2 := ext_len h (b + i)
    by_cases c : 0 ≤ g i
    · rw [if_pos c]; have := ih (ext h (b + i)) (i + 1); omega
    · rw [if_neg c]; have := ih h (i + 1); omega
theorem view_impl (b c d tk : Int) (e : Bool) (got by_ : List Int) (hv : List Bool) (hb : 0 ≤ b ∧ b ≤ 4611686018427387904) (hc : c ≤ 4096) (ht : 0 ≤ tk ∧ tk ≤ 16384000) (hg : Got c tk got) (hw : Win b c tk (gat got) by_ hv) :
    ∃ q, tk ≤ q ∧ q ≤ tk + c ∧ (∀ p, tk ≤ p → p < q → 0 ≤ gat got p) ∧ gat got q < 0 ∧ impl_buffer_view.f c by_ hv (b + tk) e d = some (b + tk, b + q, hold (gat got) b [] tk c.toNat, if e = true then 1 else 0, d) := by
  have hlen := hg.len
  have hc0 := hw.hc
  obtain ⟨q, q1, q2, q3, q4, q5⟩ := next_spec b c d tk e got (by omega) got.length tk ht.1 (by omega) (by omega)
  have hq : q ≤ tk + c := by omega
  have I1 := next_impl b c d tk e (gat got) by_ hv hb hc (by omega) hw q hq q4 q5 (q - tk).toNat tk (Int.le_refl _) (by omega)
  have S0 : Sps [] (b + tk) := ⟨fun j a h => by simp at h; omega, fun j a h => by simp at h; omega, fun j a h => by simp at h; omega⟩
  have hmk : impl_mark.f e = some (if e = true then 1 else 0) := by unfold impl_mark.f; split <;> rfl
  have V2 := view_impl_loop b c d tk e (gat got) by_ hv 0 0 0 0 (b + tk) (b + q) (if e = true then 1 else 0) d [] hb hc (by omega) hw c.toNat tk [] (Int.le_refl _) (by omega) (by simp) S0
  refine ⟨q, q2, hq, q4, q5, ?_⟩
  unfold impl_buffer_view.f impl_buffer_next.f
  rw [I1, hmk]
  simp only [some_bind, V2]
end Go.AK
