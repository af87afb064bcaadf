/- The law FnExactReorderRun: the buffer (a ring) does what the reference (a list with gaps) does. Conditions: none beyond bounds. -/
import Derived.Test.YtlladicdmmdboaaPureReorderState0
set_option linter.unusedSimpArgs false
set_option linter.unusedVariables false
namespace Go.AK
open Go
/-- What lies at a place: -1 for nothing. -/
def gat (got : List Int) (p : Int) : Int := if p < got.length then rd 0 got p else -1
theorem l5At_is (a b : Int) (got : List Int) (c d : Int) (e : Bool) (p : Int) (h : 0 ≤ p) : spec_l5At.f a b got c d e p = some (gat got p) := by
  unfold spec_l5At.f gat
  by_cases q : p < got.length
  · rw [if_neg (by omega), if_pos ⟨h, q⟩, if_pos q]
  · rw [if_pos (by omega), if_neg q]
theorem slot_inj {b c p q : Int} (hc : 0 < c) (h : (b + p) % c = (b + q) % c) (h1 : p - q < c) (h2 : q - p < c) : p = q := by
  have h3 := Int.emod_emod_of_dvd
  have h4 : ((b + p) - (b + q)) % c = 0 := Int.emod_eq_emod_iff_emod_sub_eq_zero.1 h
  rw [show (b + p) - (b + q) = p - q by omega] at h4
  have h5 := Int.dvd_of_emod_eq_zero h4
  have : p - q = 0 := by
    rcases Int.lt_trichotomy (p - q) 0 with h6 | h6 | h6
    · have := Int.le_of_dvd (by omega) (Int.dvd_neg.2 h5); omega
    · exact h6
    · have := Int.le_of_dvd h6 h5; omega
  omega
structure Win (b c tk : Int) (g : Int → Int) (by_ : List Int) (hv : List Bool) : Prop where
  hc : 0 < c
  hb : (by_.length : Int) = c
  hh : (hv.length : Int) = c
  have_ : ∀ p, tk ≤ p → p < tk + c → rd false hv ((b + p) % c) = decide (0 ≤ g p)
  byte : ∀ p, tk ≤ p → p < tk + c → 0 ≤ g p → rd 0 by_ ((b + p) % c) = g p
  top : ∀ p, tk + c ≤ p → g p < 0
theorem Win.slot {b c tk : Int} {g : Int → Int} {by_ : List Int} {hv : List Bool} (h : Win b c tk g by_ hv) (x : Int) : 0 ≤ x % c ∧ x % c < hv.length ∧ x % c < by_.length := by
  have := Int.emod_nonneg x (show c ≠ 0 by have := h.hc; omega)
  have := Int.emod_lt_of_pos x h.hc
  rw [h.hb, h.hh]; omega
theorem rd_set_eq {α : Type} {z v : α} {l : List α} {i : Int} (h0 : 0 ≤ i) (h1 : i < l.length) : rd z (l.set i.toNat v) i = v := rd_put z h0 h1 v
theorem Win.put {b c tk : Int} {g g' : Int → Int} {by_ : List Int} {hv : List Bool} (h : Win b c tk g by_ hv) {p v : Int} (h0 : tk ≤ p) (h1 : p < tk + c) (hv0 : 0 ≤ v) (hg : ∀ q, tk ≤ q → g' q = if q = p then v else g q) :
    Win b c tk g' (by_.set ((b + p) % c).toNat v) (hv.set ((b + p) % c).toNat true) := by
  obtain ⟨s0, s1, s2⟩ := h.slot (b + p)
  refine ⟨h.hc, by rw [List.length_set]; exact h.hb, by rw [List.length_set]; exact h.hh, fun q q0 q1 => ?_, fun q q0 q1 q2 => ?_, fun q q0 => ?_⟩
  · rw [hg q q0]
    by_cases e : q = p
    · rw [if_pos e, e, rd_set_eq s0 s1]; simp [hv0]
    · rw [if_neg e, rd_set_ne s0 (h.slot _).1 (fun e' => e (slot_inj h.hc e' (by omega) (by omega)).symm)]
      exact h.have_ q q0 q1
  · rw [hg q q0] at q2 ⊢
    by_cases e : q = p
    · rw [if_pos e, e, rd_set_eq s0 s2]
    · rw [if_neg e] at q2 ⊢
      rw [rd_set_ne s0 (h.slot _).1 (fun e' => e (slot_inj h.hc e' (by omega) (by omega)).symm)]
      exact h.byte q q0 q1 q2
  · rw [hg q (by have := h.hc; omega), if_neg (by omega)]; exact h.top q q0
theorem Win.take {b c tk : Int} {g : Int → Int} {by_ : List Int} {hv : List Bool} (h : Win b c tk g by_ hv) : Win b c (tk + 1) g by_ (hv.set ((b + tk) % c).toNat false) := by
  obtain ⟨s0, s1, s2⟩ := h.slot (b + tk)
  have hc := h.hc
  refine ⟨hc, h.hb, by rw [List.length_set]; exact h.hh, fun q q0 q1 => ?_, fun q q0 q1 q2 => ?_, fun q q0 => h.top q (by omega)⟩
  · by_cases e : q = tk + c
    · have e2 : (b + q) % c = (b + tk) % c := by rw [e, ← Int.add_assoc, Int.add_emod_right]
      have := h.top q (by omega)
      rw [e2, rd_set_eq s0 s1]; symm; rw [decide_eq_false_iff_not]; omega
    · rw [rd_set_ne s0 (h.slot _).1 (fun e' => by have := slot_inj hc e' (by omega) (by omega); omega)]
      exact h.have_ q (by omega) (by omega)
  · by_cases e : q = tk + c
    · have := h.top q (by omega); omega
    · exact h.byte q (by omega) (by omega) q2
/-- What the list of the reference must be. -/
structure Got (c tk : Int) (got : List Int) : Prop where
  len : (got.length : Int) ≤ tk + c
  rng : ∀ x ∈ got, -1 ≤ x ∧ x ≤ 255
theorem gat_rng {c tk : Int} {got : List Int} (h : Got c tk got) {p : Int} (h0 : 0 ≤ p) : -1 ≤ gat got p ∧ gat got p ≤ 255 := by
  unfold gat
  split
  · exact h.rng _ (rd_mem h0 (by assumption))
  · omega
/-! ### put -/
theorem ext_loop (c tk : Int) (a1 a2 a3 a4 a5 a6 a7 a8 : Int) (e1 : Bool) (a9 a10 : Int) (l : List Int) (rel : Int) (hr0 : 0 ≤ rel) (hr : rel < tk + c) (hr2 : rel < 9223372036854) (n : Nat) : ∀ got : List Int, Got c tk got → (got.length : Int) + n = max (rel + 1) got.length →
    ∃ y, spec_l5Put.l1 a1 a2 a3 rel a4 a5 a7 a8 e1 a9 a10 l got = some y ∧ Got c tk y ∧ rel < y.length ∧ ∀ p, 0 ≤ p → gat y p = gat got p := by
  induction n with
  | zero =>
    intro got hg hn
    rw [spec_l5Put.l1, if_neg (by omega)]
    exact ⟨_, rfl, hg, by omega, fun _ _ => rfl⟩
  | succ n ih =>
    intro got hg hn
    rw [spec_l5Put.l1, if_pos (by omega), if_pos (by omega)]
    have hl : ((got ++ [-1]).length : Int) = got.length + 1 := by simp
    obtain ⟨y, h1, h2, h3, h4⟩ := ih (got ++ [-1]) ⟨by omega, fun x hx => by
      rcases List.mem_append.1 hx with hx | hx
      · exact hg.rng x hx
      · rw [List.mem_singleton.1 hx]; omega⟩ (by omega)
    refine ⟨y, h1, h2, h3, fun p hp => (h4 p hp).trans ?_⟩
    unfold gat
    by_cases q : p < got.length
    · rw [if_pos (by omega), if_pos q]
      have : p.toNat < got.length := by omega
      simp [rd, List.getElem?_append_left this]
    · rw [if_neg q]
      by_cases q2 : p = got.length
      · rw [if_pos (by omega)]; subst q2; simp [rd]
      · rw [if_neg (by omega)]
theorem gat_set {got : List Int} {p v : Int} (h0 : 0 ≤ p) (h1 : p < got.length) (q : Int) (hq : 0 ≤ q) : gat (got.set p.toNat v) q = if q = p then v else gat got q := by
  unfold gat
  rw [List.length_set]
  by_cases e : q = p
  · rw [if_pos e, e, if_pos h1, rd_set_eq h0 h1]
  · rw [if_neg e, rd_set_ne h0 hq (fun e' => e e'.symm)]
end Go.AK
