/- For every list of bytes the law FnReorder answers true: reads of overlapping pieces are the stream, and what is held fits. Conditions: those of the kinds of its arguments. -/
import Derived.Test.YtlladicdmmdboaaPureFnReorder4
set_option linter.unusedSimpArgs false
set_option linter.unusedVariables false
namespace Go.AK
open Go
structure DSrc (l : List Int) (p st : Int) : Prop where
  p0 : 0 ≤ p
  p1 : p ≤ l.length
  s : 0 ≤ st ∧ st < 18446744073709551616
theorem next_ex {l : List Int} {p st : Int} (h : DSrc l p st) (hl : l.length ≤ 1048576) (n : Int) (hn : 0 < n) (hn2 : n ≤ 9223372036854775807) :
    ∃ e, spec_l1Next.f l p st n = some e ∧ DSrc l e.2.1 e.2.2 ∧ 0 ≤ e.1 ∧ e.1 < n := by
  have h0 := h.p0
  have h1 := h.p1
  unfold spec_l1Next.f
  rw [if_neg (by omega)]
  have hw := wu64_rng (IntKind.u64.wrap (st * 6364136223846793005) + 1442695040888963407)
  have hfd : ∀ x : Int, 0 ≤ x → x < 18446744073709551616 → 0 ≤ x.fdiv (2 ^ 33) ∧ x.fdiv (2 ^ 33) < 18446744073709551616 := fun x a b => by
    rw [Int.fdiv_eq_ediv_of_nonneg _ (by decide)]; omega
  have hv : ∀ x : Int, 0 ≤ x → x < 18446744073709551616 → 0 ≤ IntKind.i64.wrap (x.tmod (IntKind.u64.wrap n)) ∧ IntKind.i64.wrap (x.tmod (IntKind.u64.wrap n)) < n := fun x a b => by
    rw [wu64_in (n := n) (by omega) (by omega), Int.tmod_eq_emod_of_nonneg a]
    have := Int.emod_nonneg x (show n ≠ 0 by omega)
    have := Int.emod_lt_of_pos x (show 0 < n by omega)
    rw [wi64_in (by omega) (by omega)]; omega
  have hz : ¬ IntKind.u64.wrap n = 0 := by rw [wu64_in (by omega) (by omega)]; omega
  by_cases c2 : p < (l.length : Int)
  · have hx := xor64_rng ((IntKind.u64.wrap (IntKind.u64.wrap (st * 6364136223846793005) + 1442695040888963407)).fdiv (2 ^ 33)) (IntKind.u64.wrap (rd 0 l p))
    rw [if_pos c2, if_pos ⟨h0, c2⟩, some_bind, if_pos hz, wi64_in (n := p + 1) (by omega) (by omega)]
    have := hv _ hx.1 hx.2
    exact ⟨_, rfl, ⟨by show 0 ≤ p + 1; omega, by show p + 1 ≤ _; omega, hw⟩, this.1, this.2⟩
  · rw [if_neg c2, some_bind, if_pos hz]
    have hf := hfd _ hw.1 hw.2
    have := hv _ hf.1 hf.2
    exact ⟨_, rfl, ⟨h0, h1, hw⟩, this.1, this.2⟩
theorem begin_loop (l : List Int) (u1 : List Int) (u2 u3 u4 : Int) (hl : l.length ≤ 1048576) (s : List Int) : ∀ (i st : Int), 0 ≤ i → l.drop i.toNat = s → 0 ≤ st ∧ st < 18446744073709551616 → ∃ r, spec_l1Begin.l0 l u1 u2 u3 u4 i st = some r ∧ 0 ≤ r ∧ r < 18446744073709551616 := by
  induction s with
  | nil => intro i st h0 hd hs; rw [spec_l1Begin.l0, if_neg (suf_nil h0 hd)]; exact ⟨_, rfl, hs⟩
  | cons e t ih =>
    intro i st h0 hd hs
    obtain ⟨q1, q2, q3⟩ := suf_cons h0 hd 0
    rw [spec_l1Begin.l0, if_pos q1, if_pos ⟨h0, q1⟩, wi64_in (n := i + 1) (by omega) (by omega)]
    exact ih (i + 1) _ (by omega) q3 (wu64_rng _)
theorem begin_ex (l : List Int) (hl : l.length ≤ 1048576) : ∃ e, spec_l1Begin.f l = some e ∧ DSrc l e.1 e.2 := by
  unfold spec_l1Begin.f
  refine step_ex (begin_loop l [] 0 0 0 hl l 0 1469598103934665603 (by omega) rfl (by omega)) fun r hr => ⟨_, rfl, ?_⟩
  exact ⟨Int.le_refl _, by show (0 : Int) ≤ _; omega, hr⟩
theorem SB_rng (i : Int) : 0 ≤ SB i ∧ SB i ≤ 255 := by have := wu8_rng (IntKind.i64.wrap ((IntKind.i64.wrap (i * 7)) + (IntKind.i64.wrap (i.tdiv 11)))); unfold SB; omega
theorem data_loop (b c n en i p st : Int) (evs : List S116) (u1 u2 tk d : Int) (got : List Int) (e : Bool) (u3 u4 u5 at_ m : Int) (h0 : 0 ≤ at_ ∧ at_ ≤ 1099511627776) (hm : 0 ≤ m ∧ m ≤ 12) (k : Nat) :
    ∀ (x : Int) (acc : List Int), at_ ≤ x → x ≤ at_ + m → at_ + m - x ≤ k → (acc.length : Int) = x - at_ → (∀ j : Int, 0 ≤ j → j < acc.length → rd 0 acc j = SB (at_ + j)) →
    ∃ r, spec_l5DrawEvents.l1 b c n true en i at_ m p st evs u1 u2 got tk d e u3 u4 u5 x acc = some r ∧ (r.length : Int) ≤ m ∧ ∀ j : Int, 0 ≤ j → j < r.length → rd 0 r j = SB (at_ + j) := by
  induction k with
  | zero =>
    intro x acc h1 h2 h3 h4 h5
    rw [spec_l5DrawEvents.l1, wi64_in (n := at_ + m) (by omega) (by omega), if_neg (by omega), some_bind, if_neg nft]
    exact ⟨_, rfl, by omega, h5⟩
  | succ k ih =>
    intro x acc h1 h2 h3 h4 h5
    rw [spec_l5DrawEvents.l1, wi64_in (n := at_ + m) (by omega) (by omega)]
    by_cases c1 : x < at_ + m
    · rw [if_pos c1]
      by_cases c2 : x < en
      · rw [if_pos c2, some_bind, if_pos rfl, byte_is, some_bind, if_pos (by omega), wi64_in (n := x + 1) (by omega) (by omega)]
        refine ih (x + 1) _ (by omega) (by omega) (by omega) (by simp only [List.length_append, List.length_singleton]; omega) (fun j a b' => ?_)
        simp only [List.length_append, List.length_singleton] at b'
        by_cases w : j < acc.length
        · rw [rd_snoc_lt a w]; exact h5 j a w
        · rw [rd_snoc_eq (by omega)]; congr 1; omega
      · rw [if_neg c2, some_bind, if_neg (by decide)]
        exact ⟨_, rfl, by omega, h5⟩
    · rw [if_neg c1, some_bind, if_neg nft]
      exact ⟨_, rfl, by omega, h5⟩
theorem honE_nil (b f0 f1 f3 : Int) (h1 : 0 ≤ f1 ∧ f1 ≤ 18446744073709551615) (h3 : -9223372036854775808 ≤ f3 ∧ f3 ≤ 9223372036854775807) : HonE b ⟨f0, f1, [], f3⟩ :=
  ⟨⟨h1, Nat.zero_le _, fun y hy => by simp at hy, h3⟩, fun _ h => absurd rfl h⟩
theorem ev_loop (l : List Int) (hl : l.length ≤ 1048576) (b c n en : Int) (hb : 0 ≤ b ∧ b ≤ 4611686018427387904) (hc0 : 1 ≤ c) (hc : c ≤ 60) (hn : n ≤ 200) (hen : 0 ≤ en ∧ en ≤ 1000) (k : Nat) :
    ∀ (i p st tk d : Int) (e : Bool) (evs : List S116) (got by_ : List Int) (hv : List Bool), DSrc l p st → 0 ≤ i → i ≤ n → n - i ≤ k → (evs.length : Int) = i → (∀ x ∈ evs, HonE b x) → 0 ≤ tk → tk ≤ 4096 * i → Got c tk got → Win b c tk (gat got) by_ hv →
    ∃ y, spec_l5DrawEvents.l0 l b c n true en b c i p st evs got tk d e = some y ∧ DSrc l y.1 y.2.1 ∧ (y.2.2.length : Int) = n ∧ ∀ x ∈ y.2.2, HonE b x := by
  induction k with
  | zero =>
    intro i p st tk d e evs got by_ hv hs h0 h1 h2 h3 h4 h5 h6 hg hw
    rw [spec_l5DrawEvents.l0, if_neg (by omega)]
    exact ⟨_, rfl, hs, by show (evs.length : Int) = n; omega, h4⟩
  | succ k ih =>
    intro i p st tk d e evs got by_ hv hs h0 h1 h2 h3 h4 h5 h6 hg hw
    by_cases ci : i < n
    · rw [spec_l5DrawEvents.l0, if_pos ci]
      refine step_ex (next_ex hs hl 100 (by omega) (by omega)) fun t24 h24 => ?_
      refine step_ex (p := fun z : Int × Int × Int × Int × List Int × Int => DSrc l z.1 z.2.1 ∧ HonE b ⟨z.2.2.1, z.2.2.2.1, z.2.2.2.2.1, z.2.2.2.2.2⟩) ?_ fun z hz => ?_
      · by_cases c60 : t24.1 < 60
        · rw [if_pos c60, wi64_in (n := c + 2) (by omega) (by omega)]
          refine step_ex (next_ex h24.1 hl (c + 2) (by omega) (by omega)) fun t36 h36 => ?_
          refine step_ex (next_ex h36.1 hl 6 (by omega) (by omega)) fun t39 h39 => ?_
          refine step_ex (p := fun z : Int × Int × Int => DSrc l z.2.1 z.2.2 ∧ -10 ≤ z.1 ∧ z.1 ≤ 1099511627776) ?_ fun j46 h46 => ?_
          · refine step_ex (next_ex h39.1 hl 2 (by omega) (by omega)) fun t51 h51 => ?_
            split
            · have hgl := hg.len
              obtain ⟨q, q1, q2, q3, q4, q5⟩ := next_spec b c d tk e got (by omega) got.length tk h5 (by omega) (by omega)
              have hq : spec_l5Next.f b c got tk d e = some q := by unfold spec_l5Next.f; rw [q1]; rfl
              rw [hq, some_bind]
              refine step_ex (next_ex h51.1 hl 3 (by omega) (by omega)) fun t58 h58 => ⟨_, rfl, h58.1, ?_⟩
              dsimp only
              rw [wi64_in (n := q - t58.1) (by omega) (by omega)]; omega
            · refine ⟨_, rfl, h51.1, ?_⟩
              dsimp only
              rw [wi64_in (n := tk + t36.1) (by omega) (by omega), wi64_in (by omega) (by omega)]; omega
          obtain ⟨j1, j2, j3⟩ := h46
          refine step_ex (p := fun z : Int => 0 ≤ z ∧ z ≤ 1099511627776) ?_ fun j61 h61 => ?_
          · split
            · exact ⟨_, rfl, by omega⟩
            · exact ⟨_, rfl, by omega⟩
          refine step_ex (next_ex j1 hl 12 (by omega) (by omega)) fun t68 h68 => ?_
          rw [wi64_in (n := 1 + t68.1) (by omega) (by omega)]
          refine step_ex (data_loop b c n en i t68.2.1 t68.2.2 evs b c tk d got e 1 0 0 j61 (1 + t68.1) h61 (by omega) 12 j61 [] (by omega) (by omega) (by omega) (by simp) (fun j a b' => by simp at b'; omega)) fun r hr => ⟨_, rfl, h68.1, ?_⟩
          obtain ⟨r1, r2⟩ := hr
          have eo : IntKind.u64.wrap (b + IntKind.u64.wrap j61) = b + j61 := by rw [wu64_in (n := j61) (by omega) (by omega), wu64_in (by omega) (by omega)]
          dsimp only
          rw [eo]
          refine ⟨⟨by show 0 ≤ b + j61 ∧ b + j61 ≤ _; omega, by show r.length ≤ 1048576; omega, fun y hy => ?_, by show (_ : Int) ≤ 0 ∧ (0 : Int) ≤ _; omega⟩, fun _ _ => ⟨by show b ≤ b + j61; omega, by show b + j61 + (r.length : Int) ≤ _; omega, fun k a b' => ?_⟩⟩
          · obtain ⟨j, hj, rfl⟩ := List.mem_iff_getElem.1 hy
            have hj : j < r.length := hj
            have := r2 j (by omega) (by omega)
            have e2 : rd 0 r (j : Int) = r[j] := by simp [rd, hj]
            show 0 ≤ r[j] ∧ r[j] ≤ 255
            rw [← e2, this]; exact SB_rng _
          · show rd 0 r k = SB (b + j61 - b + k)
            rw [r2 k a b']; congr 1; omega
        · rw [if_neg c60]
          split
          · refine step_ex (next_ex h24.1 hl 20 (by omega) (by omega)) fun t hh => ⟨_, rfl, hh.1, honE_nil b 2 0 (IntKind.i64.wrap (t.1 - 1)) ⟨by decide, by decide⟩ ?_⟩
            rw [wi64_in (by omega) (by omega)]; omega
          · refine step_ex (p := fun _ : Bool => True) ?_ fun j _ => ?_
            · split
              · split
                · exact ⟨_, rfl, trivial⟩
                · exact ⟨_, rfl, trivial⟩
              · exact ⟨_, rfl, trivial⟩
            · split
              · have := wu64_rng (b + IntKind.u64.wrap en)
                exact ⟨_, rfl, h24.1, honE_nil b 3 (IntKind.u64.wrap (b + IntKind.u64.wrap en)) 0 (by omega) ⟨by decide, by decide⟩⟩
              · exact ⟨_, rfl, h24.1, honE_nil b 1 0 0 ⟨by decide, by decide⟩ ⟨by decide, by decide⟩⟩
      · obtain ⟨z1, z2⟩ := hz
        rw [if_neg (by decide), some_bind, if_neg nft, some_bind]
        dsimp only
        obtain ⟨code, m, out, got', tk', d', e', by', hv', r1, r2, r3, r4, r5, r6, r7, r8⟩ := step_both b c d tk e got by_ hv ⟨z.2.2.1, z.2.2.2.1, z.2.2.2.2.1, z.2.2.2.2.2⟩ z2.ok hb (by omega) (by omega) hg hw
        dsimp only at r1
        rw [r1, some_bind, if_pos (by omega), wi64_in (n := i + 1) (by omega) (by omega)]
        refine ih (i + 1) z.1 z.2.1 tk' d' e' _ got' by' hv' z1 (by omega) (by omega) (by omega) (by simp only [List.length_append, List.length_singleton]; omega) (fun x hx => ?_) (by omega) (by omega) r6 r7
        rcases List.mem_append.1 hx with hx | hx
        · exact h4 x hx
        · rw [List.mem_singleton] at hx; subst hx; exact z2
    · rw [spec_l5DrawEvents.l0, if_neg ci]
      exact ⟨_, rfl, hs, by show (evs.length : Int) = n; omega, h4⟩
theorem start_ex {l : List Int} {p st : Int} (h : DSrc l p st) (hl : l.length ≤ 1048576) : ∃ r, spec_l5DrawStart.f l p st = some r ∧ DSrc l r.2.1 r.2.2 ∧ 0 ≤ r.1 ∧ r.1 ≤ 4611686018427387904 := by
  unfold spec_l5DrawStart.f
  refine step_ex (next_ex h hl 5 (by omega) (by omega)) fun t ht => ?_
  split
  · refine step_ex (next_ex ht.1 hl 3 (by omega) (by omega)) fun u hu => ⟨_, rfl, hu.1, ?_⟩
    dsimp only
    rw [wu64_in (n := u.1) (by omega) (by omega), wu64_in (by omega) (by omega)]; omega
  split
  · refine step_ex (next_ex ht.1 hl 60 (by omega) (by omega)) fun u hu => ⟨_, rfl, hu.1, ?_⟩
    dsimp only
    rw [wu64_in (n := u.1) (by omega) (by omega), wu64_in (by omega) (by omega)]; omega
  split
  · refine step_ex (next_ex ht.1 hl 1000 (by omega) (by omega)) fun u hu => ⟨_, rfl, hu.1, ?_⟩
    dsimp only
    rw [wu64_in (n := u.1) (by omega) (by omega)]; omega
  · exact ⟨_, rfl, ht.1, by show (0 : Int) ≤ 0 ∧ (0 : Int) ≤ 4611686018427387904; decide⟩
theorem honest_ex (l : List Int) (hl : l.length ≤ 1048576) : ∃ r, spec_HonestPieces.f l = some r ∧ (0 ≤ r.1 ∧ r.1 ≤ 4611686018427387904) ∧ (1 ≤ r.2.1 ∧ r.2.1 ≤ 60) ∧ r.2.2.length ≤ 200 ∧ ∀ x ∈ r.2.2, HonE r.1 x := by
  unfold spec_HonestPieces.f
  refine step_ex (begin_ex l hl) fun s hs => ?_
  refine step_ex (start_ex hs hl) fun t ht => ?_
  refine step_ex (next_ex ht.1 hl 60 (by omega) (by omega)) fun u hu => ?_
  refine step_ex (next_ex hu.1 hl 120 (by omega) (by omega)) fun v hv => ?_
  rw [wi64_in (n := 1 + u.1) (by omega) (by omega), wi64_in (n := 20 + v.1) (by omega) (by omega)]
  refine step_ex (p := fun e : List S116 × Int × Int => e.1.length ≤ 200 ∧ ∀ x ∈ e.1, HonE t.1 x) ?_ fun e he => ⟨_, rfl, ht.2, by show 1 ≤ 1 + u.1 ∧ 1 + u.1 ≤ 60; omega, he⟩
  unfold spec_l5DrawEvents.f spec_l5Begin.f
  rw [some_bind]
  refine step_ex (next_ex hv.1 hl 200 (by omega) (by omega)) fun w hw => ?_
  rw [wi64_in (n := 20 + w.1) (by omega) (by omega)]
  refine step_ex (ev_loop l hl t.1 (1 + u.1) (20 + v.1) (20 + w.1) ht.2 (by omega) (by omega) (by omega) (by omega) 200 0 w.2.1 w.2.2 0 0 false [] [] _ _ hw.1 (by omega) (by omega) (by omega) rfl (fun x hx => by simp at hx) (by omega) (by omega) ⟨by simp; omega, fun x hx => by simp at hx⟩ (win0 _ _ (by omega))) fun y hy => ⟨_, rfl, by have := hy.2.1; show y.2.2.length ≤ 200; omega, hy.2.2⟩
theorem runs (b c : Int) (l : List S116) (M : Nat) (hM : 16400000 ≤ M) (hb : 0 ≤ b ∧ b ≤ 4611686018427387904) (hc : 1 ≤ c ∧ c ≤ 4096) (hl : l.length ≤ 4000) (hs : ∀ x ∈ l, EvOk x) :
    ∃ us sN q, spec_ReorderRun.f b c l = some (us, 0) ∧ impl_ReorderRun.f b c l = some (us, 0) ∧ impl_ReorderState.f b c l = some (b + sN.tk, b + q, hold (gat sN.got) b [] sN.tk c.toNat, if sN.e = true then 1 else 0, sN.d, 0) ∧
      Tr5 b c M l us ⟨[], 0, 0, false⟩ sN ∧ sN.tk ≤ 16384000 ∧ sN.tk ≤ q ∧ q ≤ sN.tk + c ∧ (∀ p, sN.tk ≤ p → p < q → 0 ≤ gat sN.got p) ∧ gat sN.got q < 0 := by
  obtain ⟨got', tk', d', e', by', hv', us, r1, r2, r3, r4, r5, r6, r7⟩ := run_tr b c l 0 0 0 0 [] false M hM hl hb hc.2 l hs 0 0 0 false [] _ _ [] (by omega) (by omega) rfl (by omega) (by omega) ⟨by simp; omega, fun x hx => by simp at hx⟩ (win0 b c hc.1) rfl
  rw [Int.add_zero] at r2
  rw [List.nil_append] at r1 r2
  obtain ⟨q, v1, v2, v3, v4, v5⟩ := view_impl b c d' tk' e' got' by' hv' hb hc.2 ⟨r5, r6⟩ r3 r4
  have hz : IntKind.u64.wrap c = c := wu64_in (by omega) (by omega)
  have hlim : 0 ≤ c ∧ c < 9223372036854775808 ∧ ((1 : Nat) : Int) * c ≤ 281474976710656 := by omega
  have k1 : ¬ b > 4611686018427387904 := by omega
  have k2 : ¬ c < 1 := by omega
  have k3 : ¬ c > 4096 := by omega
  have k4 : ¬ (l.length : Int) > 4000 := by omega
  refine ⟨us, ⟨got', tk', d', e'⟩, q, ?_, ?_, ?_, r7, r6, v1, v2, v3, v4⟩
  · unfold spec_ReorderRun.f spec_l5Run.f spec_l5Begin.f
    simp only [if_neg k1, if_neg k2, decide_eq_false k3, if_neg k4, some_bind, if_neg nft, r1]
  · unfold impl_ReorderRun.f impl_reorderAfter.f impl_newBuffer.f
    simp only [if_neg k1, if_neg k2, decide_eq_false k3, if_neg k4, some_bind, if_neg nft, if_pos hlim, hz, r2]
  · unfold impl_ReorderState.f impl_reorderAfter.f impl_newBuffer.f
    simp only [if_neg k1, if_neg k2, decide_eq_false k3, if_neg k4, some_bind, if_neg nft, if_pos hlim, hz, r2, ne_eq, not_true_eq_false, if_false, v5]
theorem FnReorder_pure (l0 : List Int) (_ : l0.length ≤ maxLen) (_ : ∀ x ∈ l0, (Lit.int .u8 x).wf = true) : laws_FnReorder.f l0 = some true := by
  unfold laws_FnReorder.f
  by_cases c0 : (l0.length : Int) > 1048576
  · rw [if_pos c0]
  rw [if_neg c0]
  obtain ⟨⟨b, c, evs⟩, e0, hb, hc, hlen, hh⟩ := honest_ex l0 (by omega)
  dsimp only at hb hc hlen hh
  obtain ⟨M, hM⟩ : ∃ M : Nat, M = 16400000 := ⟨_, rfl⟩
  obtain ⟨us, sN, q, w1, w2, w3, w4, w5, w6, w7, w8, w9⟩ := runs b c evs M (by omega) hb (by omega) (by omega) (fun x hx => (hh x hx).ok)
  have hul := Tr5_len w4
  rw [e0, some_bind]
  dsimp only
  rw [w1, some_bind, w2, some_bind, w3, some_bind]
  dsimp only
  rw [if_neg (by decide), if_neg (by decide), if_neg (by omega), some_bind, if_neg (by simp [hul])]
  have hn : ∀ p, 0 ≤ p → gat [] p < 0 := fun p hp => by
    unfold gat; rw [if_neg (by simp only [List.length_nil]; omega)]; omega
  have hli : LI b c M ⟨[], 0, 0, false⟩ 0 [] 0 := by
    refine ⟨⟨Int.le_refl _, by decide⟩, ⟨by simp; omega, fun x hx => by simp at hx⟩, fun p a b' => ?_, fun p a b' => ?_, ?_, trivial, fun x => ?_, by simp⟩
    · have b' : p < 0 := b'; omega
    · have := hn p a; have b' : 0 ≤ gat [] p := b'; omega
    · have := cnt_over (g := gat []) 0 M (fun p h => hn p h)
      rw [Nat.zero_add] at this; exact this.symm
    · constructor
      · exact fun h => (In_nil x h).elim
      · rintro ⟨hx, h⟩; have := hn (x - b) (by omega); have h : 0 ≤ gat [] (x - b) := h; omega
  obtain ⟨S', kept', l1, l2⟩ := law_loop l0 b c (b + sN.tk) (b + q) (if sN.e = true then 1 else 0) sN.d evs us (hold (gat sN.got) b [] sN.tk c.toNat) M sN hb (by omega) (by omega) hul (by omega) (fun h => ⟨if_pos h, rfl⟩) evs us ⟨[], 0, 0, false⟩ 0 0 [] (by omega) (by omega) rfl rfl w4 hh hli
  obtain ⟨f1, ⟨z, f2, f3, f4⟩, ⟨G, f5, f6, f7⟩, f8⟩ := law_end b c q M sN kept' evs.length S' hb (by omega) (by omega) (by omega) (by omega) l2 w5 w6 w7 w8 w9
  have ht := l2.tk
  have ec : IntKind.u64.wrap c = c := wu64_in (by omega) (by omega)
  have e1 : IntKind.u64.wrap (b + sN.tk + c) = b + sN.tk + c := wu64_in (by omega) (by omega)
  have e2 : IntKind.u64.wrap (b + sN.tk + c + 1) = b + sN.tk + c + 1 := wu64_in (by omega) (by omega)
  have e3 : b + sN.tk = IntKind.u64.wrap (b + IntKind.u64.wrap sN.tk) := by rw [wu64_in (n := sN.tk) (by omega) (by omega), wu64_in (by omega) (by omega)]
  have kr := l2.kept
  have kc := cnt_rng (gat sN.got) M
  have e4 : IntKind.i64.wrap (IntKind.i64.wrap z + sN.tk) = kept' := by rw [wi64_in (n := z) (by omega) (by omega), wi64_in (by omega) (by omega)]; exact f4
  rw [l1, some_bind]
  dsimp only
  rw [f1, some_bind, ec, e1, e2, f2, some_bind, f5, some_bind]
  dsimp only
  rw [if_pos rfl, if_pos rfl, if_pos e3, lspans_is _ (by omega), some_bind, if_pos rfl, if_pos e4, if_pos (by omega), if_pos (by omega), f7, decide_eq_true rfl]
end Go.AK
