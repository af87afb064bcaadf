/- The law FnExactReorderState: what the two ends of the buffer tell. Conditions: bounds. -/
import Derived.Test.YtlladicdmmdboaaPureReorderState5
set_option linter.unusedSimpArgs false
set_option linter.unusedVariables false
namespace Go.AK
open Go
theorem l5View_loop (b c d tk : Int) (e : Bool) (got : List Int) (u7 u8 u10 u11 u12 u13 u15 u16 : Int) (u9 : List S122) (hb : 0 ≤ b ∧ b ≤ 4611686018427387904) (hgl : got.length ≤ 16400000) (n : Nat) :
    ∀ (i : Int) (h : List S122), 0 ≤ i → (got.length : Int) - i ≤ n → (h.length : Int) ≤ i → spec_l5View.l0 b c got tk d e u7 u8 u9 u10 u11 u12 u13 u15 u16 i h = some (hold (gat got) b h i (got.length - i.toNat)) := by
  induction n with
  | zero =>
    intro i h h0 h1 h2
    rw [spec_l5View.l0, if_neg (by omega), show got.length - i.toNat = 0 by omega]; rfl
  | succ n ih =>
    intro i h h0 h1 h2
    by_cases c1 : i < got.length
    · have hg : gat got i = rd 0 got i := if_pos c1
      have hm : got.length - i.toNat = (got.length - (i + 1).toNat) + 1 := by omega
      have e1 : IntKind.u64.wrap (b + IntKind.u64.wrap i) = b + i := by rw [wu64_in (n := i) (by omega) (by omega), wu64_in (by omega) (by omega)]
      have e2 : IntKind.u64.wrap (b + i + 1) = b + i + 1 := wu64_in (by omega) (by omega)
      have e3 : IntKind.i64.wrap (i + 1) = i + 1 := wi64_in (by omega) (by omega)
      have e4 : IntKind.i64.wrap ((h.length : Int) - 1) = (h.length : Int) - 1 := wi64_in (by omega) (by omega)
      rw [spec_l5View.l0, if_pos c1, if_pos ⟨h0, c1⟩, hm]
      simp only [hold, e1, e2, e3, e4, ← hg]
      by_cases c2 : gat got i < 0
      · rw [if_pos c2, some_bind, if_neg (by omega)]
        exact ih (i + 1) h (by omega) (by omega) (by omega)
      · rw [if_neg c2, if_pos (show 0 ≤ gat got i by omega)]
        have hx := ext_len h (b + i)
        have key : (((if (h.length : Int) > 0 then (if 0 ≤ (h.length : Int) - 1 ∧ (h.length : Int) - 1 < (h.length : Int) then (some (decide ((rd z122 h ((h.length : Int) - 1)).f1 = b + i))) else none) else (some false)) >>= fun (j101 : Bool) => (if j101 = true then (if 0 ≤ (h.length : Int) - 1 ∧ (h.length : Int) - 1 < (h.length : Int) then (some (h.set ((h.length : Int) - 1).toNat (⟨(rd z122 h ((h.length : Int) - 1)).f0, b + i + 1⟩ : S122))) else none) else (if (h.length + 1) * 16 ≤ 140737488355328 then (some (h ++ ([(⟨b + i, b + i + 1⟩ : S122)] : List S122))) else none))) : Option (List S122)) = some (ext h (b + i)) := by
          unfold ext
          by_cases c3 : (h.length : Int) > 0
          · have hin : 0 ≤ (h.length : Int) - 1 ∧ (h.length : Int) - 1 < (h.length : Int) := by omega
            rw [if_pos c3, if_pos hin, some_bind]
            by_cases c4 : (rd z122 h ((h.length : Int) - 1)).f1 = b + i
            · rw [decide_eq_true c4, if_pos rfl, if_pos hin, if_pos ⟨c3, c4⟩]
            · rw [decide_eq_false c4, if_neg nft, if_pos (by omega), if_neg (fun hh => c4 hh.2)]
          · rw [if_neg c3, some_bind, if_neg nft, if_pos (by omega), if_neg (fun hh => c3 hh.1)]
        rw [key, some_bind]
        exact ih (i + 1) _ (by omega) (by omega) (by omega)
    · rw [spec_l5View.l0, if_neg c1, show got.length - i.toNat = 0 by omega]; rfl
theorem view_impl_loop (b c d tk : Int) (e : Bool) (g : Int → Int) (by_ : List Int) (hv : List Bool) (u7 u8 u10 u11 u12 u13 u15 u16 : Int) (u9 : List S122) (hb : 0 ≤ b ∧ b ≤ 4611686018427387904) (hc : c ≤ 4096) (ht : 0 ≤ tk ∧ tk ≤ 1099511627776) (hw : Win b c tk g by_ hv) (n : Nat) :
    ∀ (i : Int) (h : List S122), tk ≤ i → i + n = tk + c → (h.length : Int) ≤ i - tk → Sps h (b + i) → impl_buffer_view.l0 c by_ hv (b + tk) e d u7 u8 u9 u10 u11 u12 u13 u15 u16 (b + i) h = some (hold g b h i n) := by
  have hc0 := hw.hc
  have e1 : IntKind.u64.wrap (b + tk + c) = b + tk + c := wu64_in (by omega) (by omega)
  induction n with
  | zero => intro i h h0 h1 h2 hs; rw [impl_buffer_view.l0, e1, if_neg (by omega)]; rfl
  | succ n ih =>
    intro i h h0 h1 h2 hs
    have htm : (b + i).tmod c = (b + i) % c := Int.tmod_eq_emod_of_nonneg (by omega)
    obtain ⟨s0, s1, s2⟩ := hw.slot (b + i)
    have e2 : IntKind.u64.wrap (b + i + 1) = b + i + 1 := wu64_in (by omega) (by omega)
    rw [impl_buffer_view.l0, e1, if_pos (by omega), if_pos (by omega), htm, if_pos ⟨s0, s1⟩, hw.have_ i h0 (by omega), e2]
    simp only [hold]
    by_cases c2 : 0 ≤ g i
    · rw [decide_eq_true c2, if_pos rfl, if_pos c2, add_is h (b + i) (by omega) (by omega) hs, some_bind, some_bind, Int.add_assoc]
      have hx := ext_len h (b + i)
      have := hs.ext
      rw [Int.add_assoc] at this
      exact ih (i + 1) _ (by omega) (by omega) (by omega) this
    · rw [decide_eq_false c2, if_neg nft, if_neg c2, some_bind, Int.add_assoc]
      have := hs.next
      rw [Int.add_assoc] at this
      exact ih (i + 1) _ (by omega) (by omega) (by omega) this
theorem hold_len (g : Int → Int) (b : Int) (n : Nat) : ∀ (h : List S122) (i : Int), (hold g b h i n).length ≤ h.length + n := by
  induction n with
  | zero => intro h i; exact Nat.le_refl _
  | succ n ih =>
    intro h i
    simp only [hold]
    have h2 := ext_len h (b + i)
    by_cases c : 0 ≤ g i
    · rw [if_pos c]; have := ih (ext h (b + i)) (i + 1); omega
    · rw [if_neg c]; have := ih h (i + 1); omega
theorem view_both (b c d tk : Int) (e : Bool) (got by_ : List Int) (hv : List Bool) (hb : 0 ≤ b ∧ b ≤ 4611686018427387904) (hc : c ≤ 4096) (ht : 0 ≤ tk ∧ tk ≤ 16384000) (hg : Got c tk got) (hw : Win b c tk (gat got) by_ hv) (hd : e = false → d = 0) :
    ∃ r nx h hf f, spec_l5View.f b c got tk d e = some (r, nx, h, hf, f) ∧ impl_buffer_view.f c by_ hv (b + tk) e d = some (r, nx, h, hf, f) ∧ h.length ≤ 4096 := by
  have hlen := hg.len
  have hc0 := hw.hc
  obtain ⟨q, q1, q2, q3, q4, q5⟩ := next_spec b c d tk e got (by omega) got.length tk ht.1 (by omega) (by omega)
  have hq : q ≤ tk + c := by omega
  have I1 := next_impl b c d tk e (gat got) by_ hv hb hc (by omega) hw q hq q4 q5 (q - tk).toNat tk (Int.le_refl _) (by omega)
  have hH : hold (gat got) b [] tk (got.length - tk.toNat) = hold (gat got) b [] tk c.toNat := by
    have : c.toNat = (got.length - tk.toNat) + (c.toNat - (got.length - tk.toNat)) := by omega
    have hn : ∀ p, tk + ((got.length - tk.toNat : Nat) : Int) ≤ p → gat got p < 0 := fun p hp => by
      unfold gat; rw [if_neg (show ¬ p < (got.length : Int) by omega)]; omega
    rw [this, hold_add, hold_none _ _ _ _ _ hn]
  have S0 : Sps [] (b + tk) := ⟨fun j a h => by simp at h; omega, fun j a h => by simp at h; omega, fun j a h => by simp at h; omega⟩
  have V1 := l5View_loop b c d tk e got 0 0 0 0 (b + tk) (b + q) 0 0 [] hb (by omega) got.length tk [] ht.1 (by omega) (by simp; omega)
  have hmk : impl_mark.f e = some (if e = true then 1 else 0) := by unfold impl_mark.f; split <;> rfl
  have V2 := view_impl_loop b c d tk e (gat got) by_ hv 0 0 0 0 (b + tk) (b + q) (if e = true then 1 else 0) d [] hb hc (by omega) hw c.toNat tk [] (Int.le_refl _) (by omega) (by simp) S0
  have e1 : IntKind.u64.wrap (b + IntKind.u64.wrap q) = b + q := by rw [wu64_in (n := q) (by omega) (by omega), wu64_in (by omega) (by omega)]
  have J : ((if e = true then some (1, d) else some (0, 0)) : Option (Int × Int)) = some (if e = true then 1 else 0, d) := by
    cases e with
    | true => rfl
    | false => rw [hd rfl]; rfl
  have hl := hold_len (gat got) b c.toNat [] tk
  refine ⟨b + tk, b + q, hold (gat got) b [] tk c.toNat, if e = true then 1 else 0, d, ?_, ?_, by simp at hl; omega⟩
  · unfold spec_l5View.f spec_l5Next.f
    rw [l5Read_is _ _ _ _ _ _ hb (by omega), q1]
    simp only [some_bind, e1, V1, J, hH]
  · unfold impl_buffer_view.f impl_buffer_next.f
    rw [I1, hmk]
    simp only [some_bind, V2]
theorem state_both (a0 a1 : Int) (l : List S116) (h0 : 0 ≤ a0 ∧ a0 ≤ 18446744073709551615) (h1 : -9223372036854775808 ≤ a1 ∧ a1 ≤ 9223372036854775807) (hl : l.length ≤ 1048576) (hs : ∀ x ∈ l, EvOk x) :
    ∃ r nx h hf f code, spec_ReorderState.f a0 a1 l = some (r, nx, h, hf, f, code) ∧ impl_ReorderState.f a0 a1 l = some (r, nx, h, hf, f, code) ∧ h.length ≤ 4096 := by
  unfold spec_ReorderState.f impl_ReorderState.f spec_l5Run.f impl_reorderAfter.f
  by_cases k : a0 > 4611686018427387904 ∨ a1 < 1 ∨ a1 > 4096
  · have J : ((if a0 > 4611686018427387904 then some true else (if a1 < 1 then some true else some (decide (a1 > 4096)))) : Option Bool) = some true := by
      split
      · rfl
      · split
        · rfl
        · rw [decide_eq_true (by omega)]
    rw [J, some_bind, some_bind, if_pos rfl, if_pos rfl, some_bind, some_bind]
    exact ⟨_, _, _, _, _, _, rfl, rfl, by simp⟩
  · rw [if_neg (show ¬ a0 > 4611686018427387904 by omega), if_neg (show ¬ a1 < 1 by omega), decide_eq_false (show ¬ a1 > 4096 by omega), some_bind, some_bind, if_neg nft, if_neg nft]
    by_cases k2 : (l.length : Int) > 4000
    · rw [if_pos k2, if_pos k2, some_bind, some_bind]
      exact ⟨_, _, _, _, _, _, rfl, rfl, by simp⟩
    · have W : Win a0 a1 0 (gat []) (List.replicate a1.toNat 0) (List.replicate a1.toNat false) := by
        have hn : ∀ p, 0 ≤ p → gat [] p < 0 := fun p hp => by
          unfold gat; rw [if_neg (by simp only [List.length_nil]; omega)]; omega
        refine ⟨by omega, by rw [List.length_replicate]; omega, by rw [List.length_replicate]; omega, fun p hp _ => ?_, fun p hp _ h => ?_, fun p hp => hn p (by omega)⟩
        · have : ∀ q, rd false (List.replicate a1.toNat false) q = false := fun q => by simp [rd, List.getElem?_replicate]; split <;> rfl
          rw [this]; symm; rw [decide_eq_false_iff_not]; have := hn p hp; omega
        · have := hn p hp; omega
      obtain ⟨got', tk', d', e', by', hv', outs', r1, r2, r3, r4, r5, r6, r7⟩ := run_both a0 a1 l 0 0 0 0 [] false (by omega) (by omega) (by omega) l hs 0 0 0 false [] _ _ [] (by omega) (by omega) rfl (by omega) (by omega) ⟨by simp; omega, fun x hx => by simp at hx⟩ W rfl (fun x hx => by simp at hx) (fun _ => rfl)
      rw [Int.add_zero] at r2
      obtain ⟨r, nx, h, hf, f, v1, v2, v3⟩ := view_both a0 a1 d' tk' e' got' by' hv' (by omega) (by omega) ⟨r5, r6⟩ r3 r4 r7
      have hz : IntKind.u64.wrap a1 = a1 := wu64_in (by omega) (by omega)
      have hlim : 0 ≤ a1 ∧ a1 < 9223372036854775808 ∧ ((1 : Nat) : Int) * a1 ≤ 281474976710656 := by omega
      unfold spec_l5Begin.f impl_newBuffer.f
      simp only [if_neg k2, if_pos hlim, some_bind, hz, r1, r2, ne_eq, not_true_eq_false, if_false, v1, v2]
      exact ⟨_, _, _, _, _, _, rfl, rfl, v3⟩
theorem wS122_le (l : List S122) : wS122 l ≤ l.length * 3 := by
  induction l with
  | nil => simp [wS122]
  | cons y t ih => unfold wS122 w122; rw [List.length_cons]; omega
theorem wS116_le (l : List S116) (h : ∀ x ∈ l, EvOk x) : wS116 l ≤ l.length * 1048580 := by
  induction l with
  | nil => simp [wS116]
  | cons y t ih =>
    have := (h y (by simp)).len
    have := ih fun x hx => h x (by simp [hx])
    unfold wS116 w116; rw [List.length_cons]; omega
theorem FnExactReorderState_pure (a0 a1 : Int) (l : List S172) (h0 : (Lit.int .u64 a0).wf = true) (h1 : (Lit.int .i64 a1).wf = true) (hl : l.length ≤ maxLen)
    (hs : ∀ y ∈ l, ((Lit.int .i64 y.f0).wf = true) ∧ ((Lit.int .u64 y.f1).wf = true) ∧ (y.f2.length ≤ maxLen ∧ ∀ z ∈ y.f2, (Lit.int .u8 z).wf = true) ∧ ((Lit.int .i64 y.f3).wf = true)) : laws_FnExactReorderState.f a0 a1 l = some true := by
  have h0 : 0 ≤ a0 ∧ a0 ≤ 18446744073709551615 := by simpa [Lit.wf, IntKind.signed, IntKind.bits, IntKind.min, IntKind.max] using h0
  have h1 : -9223372036854775808 ≤ a1 ∧ a1 ≤ 9223372036854775807 := by simpa [Lit.wf, IntKind.signed, IntKind.bits, IntKind.min, IntKind.max] using h1
  have hM : maxLen = 9223372036854775807 := rfl
  obtain ⟨r, e1, e2⟩ := szReorderEventS_is l 1048576 (by omega) (by omega) (fun x hx => by have := (hs x hx).2.2.1.1; show x.f2.length < _; omega)
  unfold laws_FnExactReorderState.f
  rw [e1, some_bind]
  by_cases k : r < 0
  · rw [if_pos k]
  have hz : zS172 l ≤ 1048576 := by omega
  have hz2 := zS172_len l
  have hok : ∀ x ∈ l.map cv172, EvOk x := fun x hx => by
    obtain ⟨y, hy, rfl⟩ := List.mem_map.1 hx
    obtain ⟨_, p1, ⟨_, p2⟩, p3⟩ := hs y hy
    have h9 := zS172_mem hy
    have hzz : zz172 y = y.f2.length := rfl
    refine ⟨?_, by show y.f2.length ≤ _; omega, fun z hz => ?_, ?_⟩
    · show 0 ≤ y.f1 ∧ y.f1 ≤ _; simpa [Lit.wf, IntKind.signed, IntKind.bits, IntKind.min, IntKind.max] using p1
    · simpa [Lit.wf, IntKind.signed, IntKind.bits, IntKind.min, IntKind.max] using p2 z hz
    · show _ ≤ y.f3 ∧ y.f3 ≤ _; simpa [Lit.wf, IntKind.signed, IntKind.bits, IntKind.min, IntKind.max] using p3
  have hlen : (l.map cv172).length ≤ 1048576 := by rw [List.length_map]; omega
  rw [if_neg k, toReorderEventS_is l hz, some_bind]
  generalize l.map cv172 = L at hok hlen
  obtain ⟨r, nx, h, hf, f, code, r1, r2, r3⟩ := state_both a0 a1 L h0 h1 hlen hok
  have hw := wS122_le h
  have hw2 := wS116_le L hok
  have hE := eqReorderView_is r nx h hf f (by omega)
  have hEv := eqReorderEventS_is L (by omega)
  obtain ⟨k1, l1, g1, g2, g3, g4⟩ := mhReorderEventS L 1 (by omega) (by omega)
  obtain ⟨k2, l2, f1, f2, f3, f4, f5⟩ := mhSpanS h 1 (by omega) (by omega)
  have n1 : (k1 < 0) = False := by simp; omega
  have n2 : (k2 < 0) = False := by simp; omega
  simp [r1, r2, hE, hEv, g4, laws_markReorderView.f, laws_heldReorderView.f, f4, f5, n1, n2]
end Go.AK
