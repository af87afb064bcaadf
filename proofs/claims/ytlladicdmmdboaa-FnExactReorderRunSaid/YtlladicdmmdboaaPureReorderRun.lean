/- The law FnExactReorderRun answers true for all of its arguments. Conditions: the kinds of the arguments. -/
import Derived.Test.YtlladicdmmdboaaPureReorderRunE
set_option linter.unusedSimpArgs false
set_option linter.unusedVariables false
namespace Go.AK
open Go
structure EvOk (x : S116) : Prop where
  at_ : 0 ≤ x.f1 ∧ x.f1 ≤ 18446744073709551615
  len : x.f2.length ≤ 1048576
  byte : ∀ y ∈ x.f2, 0 ≤ y ∧ y ≤ 255
  n : -9223372036854775808 ≤ x.f3 ∧ x.f3 ≤ 9223372036854775807
theorem step_both (b c d tk : Int) (e : Bool) (got by_ : List Int) (hv : List Bool) (x : S116) (hx : EvOk x) (hb : 0 ≤ b ∧ b ≤ 4611686018427387904) (hc : c ≤ 4096) (ht : 0 ≤ tk ∧ tk ≤ 1099511627776) (hg : Got c tk got) (hw : Win b c tk (gat got) by_ hv) :
    ∃ code n out got' tk' d' e' by' hv', spec_l5Step.f b c got tk d e x.f0 x.f1 x.f2 x.f3 = some (code, n, out, got', tk', d', e') ∧ impl_buffer_act.f c by_ hv (b + tk) e d x.f0 x.f1 x.f2 x.f3 = some (code, n, out, by', hv', b + tk', e', d') ∧
      tk ≤ tk' ∧ tk' ≤ tk + c ∧ out.length ≤ 4096 ∧ Got c tk' got' ∧ Win b c tk' (gat got') by' hv' := by
  have hc0 := hw.hc
  unfold spec_l5Step.f impl_buffer_act.f
  by_cases k1 : x.f0 = 1
  · obtain ⟨code, n, got', by', hv', r1, r2, r3, r4⟩ := put_both b c d tk x.f1 e got by_ hv x.f2 hb hc ht hx.at_ hx.len hx.byte hg hw
    rw [if_pos k1, if_pos k1, r1, r2, some_bind, some_bind]
    exact ⟨_, _, _, _, _, _, _, _, _, rfl, rfl, Int.le_refl _, by omega, by simp, r3, r4⟩
  · by_cases k2 : x.f0 = 2
    · obtain ⟨code, n, out, tk', hv', r1, r2, r3, r4, r5, r6⟩ := take_both b c d tk x.f3 e got by_ hv hb hc ht hx.n hg hw
      rw [if_neg k1, if_neg k1, if_pos k2, if_neg (show ¬ x.f0 = 3 by omega), if_pos k2, r1, r2, some_bind, some_bind]
      exact ⟨_, _, _, _, _, _, _, _, _, rfl, rfl, r3, r4, r5, ⟨by have := hg.len; show (got.length : Int) ≤ tk' + c; omega, hg.rng⟩, r6⟩
    · by_cases k3 : x.f0 = 3
      · obtain ⟨code, d', e', r1, r2⟩ := fin_both b c d tk x.f1 e got by_ hv hb hc ht hx.at_ hg hw
        rw [if_neg k1, if_neg k1, if_neg k2, if_pos k3, if_pos k3, r1, r2, some_bind, some_bind]
        exact ⟨_, _, _, _, _, _, _, _, _, rfl, rfl, Int.le_refl _, by omega, by simp, hg, hw⟩
      · rw [if_neg k1, if_neg k1, if_neg k2, if_neg k3, if_neg k3, if_neg k2]
        exact ⟨_, _, _, _, _, _, _, _, _, rfl, rfl, Int.le_refl _, by omega, by simp, hg, hw⟩
theorem run_both (b c : Int) (l : List S116) (u1 u2 u4 u5 : Int) (u3 : List Int) (u6 : Bool) (hl : l.length ≤ 4000) (hb : 0 ≤ b ∧ b ≤ 4611686018427387904) (hc : c ≤ 4096) (s : List S116) (hs : ∀ x ∈ s, EvOk x) :
    ∀ (i tk d : Int) (e : Bool) (got by_ : List Int) (hv : List Bool) (outs : List S118), 0 ≤ i → i ≤ l.length → l.drop i.toNat = s → 0 ≤ tk → tk ≤ 4096 * i → Got c tk got → Win b c tk (gat got) by_ hv → (outs.length : Int) = i → (∀ x ∈ outs, x.f2.length ≤ 4096) →
    ∃ got' tk' d' e' by' hv' nx' outs', spec_l5Run.l0 l u1 u2 u3 u4 u5 u6 b c i got tk d e outs = some (got', tk', d', e', outs') ∧ impl_reorderAfter.l0 l l.length c i by_ hv (b + tk) e d outs = some (by', hv', nx', e', d', outs') ∧
      outs'.length = l.length ∧ ∀ x ∈ outs', x.f2.length ≤ 4096 := by
  induction s with
  | nil =>
    intro i tk d e got by_ hv outs h0 h1 hd h2 h3 hg hw h4 h5
    have := suf_nil h0 hd
    rw [spec_l5Run.l0, if_neg this, impl_reorderAfter.l0, if_neg this]
    exact ⟨_, _, _, _, _, _, _, _, rfl, rfl, by omega, h5⟩
  | cons x t ih =>
    intro i tk d e got by_ hv outs h0 h1 hd h2 h3 hg hw h4 h5
    obtain ⟨q1, q2, q3⟩ := suf_cons h0 hd z116
    obtain ⟨code, n, out, got', tk', d', e', by', hv', r1, r2, r3, r4, r5, r6, r7⟩ := step_both b c d tk e got by_ hv x (hs x (by simp)) hb hc (by omega) hg hw
    have hi : 0 ≤ i ∧ i < l.length := ⟨h0, q1⟩
    rw [spec_l5Run.l0, if_pos q1, if_pos hi, q2, r1, some_bind, if_pos (by omega), impl_reorderAfter.l0, if_pos q1, if_pos hi, q2, r2, some_bind, if_pos (by omega), wi64_in (n := i + 1) (by omega) (by omega)]
    refine ih (fun y hy => hs y (by simp [hy])) (i + 1) tk' d' e' got' by' hv' _ (by omega) (by omega) q3 (by omega) (by omega) r6 r7 (len_snoc h4) fun y hy => ?_
    rcases List.mem_append.1 hy with hy | hy
    · exact h5 y hy
    · rw [List.mem_singleton.1 hy]; exact r5
theorem reorder_both (a0 a1 : Int) (l : List S116) (h0 : 0 ≤ a0 ∧ a0 ≤ 18446744073709551615) (h1 : -9223372036854775808 ≤ a1 ∧ a1 ≤ 9223372036854775807) (hl : l.length ≤ 1048576) (hs : ∀ x ∈ l, EvOk x) :
    ∃ outs code, spec_ReorderRun.f a0 a1 l = some (outs, code) ∧ impl_ReorderRun.f a0 a1 l = some (outs, code) ∧ outs.length ≤ 4000 ∧ ∀ x ∈ outs, x.f2.length ≤ 4096 := by
  unfold spec_ReorderRun.f impl_ReorderRun.f spec_l5Run.f impl_reorderAfter.f
  by_cases k : a0 > 4611686018427387904 ∨ a1 < 1 ∨ a1 > 4096
  · have J : ((if a0 > 4611686018427387904 then some true else (if a1 < 1 then some true else some (decide (a1 > 4096)))) : Option Bool) = some true := by
      split
      · rfl
      · split
        · rfl
        · rw [decide_eq_true (by omega)]
    rw [J, some_bind, some_bind, if_pos rfl, if_pos rfl, some_bind, some_bind]
    exact ⟨_, _, rfl, rfl, by simp, fun x hx => by simp at hx⟩
  · rw [if_neg (show ¬ a0 > 4611686018427387904 by omega), if_neg (show ¬ a1 < 1 by omega), decide_eq_false (show ¬ a1 > 4096 by omega), some_bind, some_bind, if_neg nft, if_neg nft]
    by_cases k2 : (l.length : Int) > 4000
    · rw [if_pos k2, if_pos k2, some_bind, some_bind]
      exact ⟨_, _, rfl, rfl, by simp, fun x hx => by simp at hx⟩
    · have W : Win a0 a1 0 (gat []) (List.replicate a1.toNat 0) (List.replicate a1.toNat false) := by
        have hn : ∀ p, 0 ≤ p → gat [] p < 0 := fun p hp => by
          unfold gat; rw [if_neg (by simp only [List.length_nil]; omega)]; omega
        refine ⟨by omega, by rw [List.length_replicate]; omega, by rw [List.length_replicate]; omega, fun p hp _ => ?_, fun p hp _ h => ?_, fun p hp => hn p (by omega)⟩
        · have : ∀ q, rd false (List.replicate a1.toNat false) q = false := fun q => by simp [rd, List.getElem?_replicate]; split <;> rfl
          rw [this]; symm; rw [decide_eq_false_iff_not]; have := hn p hp; omega
        · have := hn p hp; omega
      obtain ⟨got', tk', d', e', by', hv', nx', outs', r1, r2, r3, r4⟩ := run_both a0 a1 l 0 0 0 0 [] false (by omega) (by omega) (by omega) l hs 0 0 0 false [] _ _ [] (by omega) (by omega) rfl (by omega) (by omega) ⟨by simp; omega, fun x hx => by simp at hx⟩ W rfl (fun x hx => by simp at hx)
      rw [Int.add_zero] at r2
      unfold spec_l5Begin.f impl_newBuffer.f
      rw [if_neg k2, if_neg k2, if_pos (by omega), some_bind, some_bind, wu64_in (n := a1) (by omega) (by omega), r1, r2, some_bind, some_bind, some_bind, some_bind]
      exact ⟨_, _, rfl, rfl, by show outs'.length ≤ 4000; omega, r4⟩
theorem cntO_le (l : List S118) (h : ∀ x ∈ l, x.f2.length ≤ 4096) : cntO l ≤ l.length * 4098 := by
  induction l with
  | nil => simp [cntO]
  | cons x t ih =>
    have := h x (by simp)
    have := ih (fun y hy => h y (by simp [hy]))
    unfold cntO; rw [List.length_cons]; omega
theorem FnExactReorderRun_pure (a0 a1 : Int) (l : List S172) (h0 : (Lit.int .u64 a0).wf = true) (h1 : (Lit.int .i64 a1).wf = true) (hl : l.length ≤ maxLen)
    (hs : ∀ y ∈ l, ((Lit.int .i64 y.f0).wf = true) ∧ ((Lit.int .u64 y.f1).wf = true) ∧ (y.f2.length ≤ maxLen ∧ ∀ z ∈ y.f2, (Lit.int .u8 z).wf = true) ∧ ((Lit.int .i64 y.f3).wf = true)) : laws_FnExactReorderRun.f a0 a1 l = some true := by
  have h0 : 0 ≤ a0 ∧ a0 ≤ 18446744073709551615 := by simpa [Lit.wf, IntKind.signed, IntKind.bits, IntKind.min, IntKind.max] using h0
  have h1 : -9223372036854775808 ≤ a1 ∧ a1 ≤ 9223372036854775807 := by simpa [Lit.wf, IntKind.signed, IntKind.bits, IntKind.min, IntKind.max] using h1
  have hM : maxLen = 9223372036854775807 := rfl
  unfold laws_FnExactReorderRun.f
  obtain ⟨t, t1, t2⟩ := szReorderEventS_is l (by omega) (fun x hx => by have := (hs x hx).2.2.1.1; omega)
  rw [t1, some_bind]
  by_cases k : t < 0
  · rw [if_pos k]
  have ht := t2 (by omega)
  have hn := tot_nn l
  have hok : ∀ x ∈ l.map conv, EvOk x := fun x hx => by
    obtain ⟨y, hy, rfl⟩ := List.mem_map.1 hx
    obtain ⟨_, p1, ⟨_, p2⟩, p3⟩ := hs y hy
    have := tot_mem hy
    refine ⟨?_, by show y.f2.length ≤ _; omega, fun z hz => ?_, ?_⟩
    · show 0 ≤ y.f1 ∧ y.f1 ≤ _; simpa [Lit.wf, IntKind.signed, IntKind.bits, IntKind.min, IntKind.max] using p1
    · simpa [Lit.wf, IntKind.signed, IntKind.bits, IntKind.min, IntKind.max] using p2 z hz
    · show _ ≤ y.f3 ∧ y.f3 ≤ _; simpa [Lit.wf, IntKind.signed, IntKind.bits, IntKind.min, IntKind.max] using p3
  have hlen : (l.map conv).length ≤ 1048576 := by rw [List.length_map]; omega
  rw [if_neg k, toReorderEventS_is l (by omega), some_bind]
  generalize l.map conv = L at hok hlen
  obtain ⟨outs, code, r1, r2, r3, r4⟩ := reorder_both a0 a1 L h0 h1 hlen hok
  have hE := eqReorderOutS_is outs (by omega) (fun x hx => by have := r4 x hx; omega)
  have hEv := eqReorderEventS_is L (by omega) (fun x hx => by have := (hok x hx).len; omega)
  obtain ⟨m, m1, m2⟩ := markReorderEventS_is L hlen (fun x hx => (hok x hx).len)
  have hc := cntO_le outs r4
  have hc0 := cntO_nn outs
  have hM := markReorderOutS_is outs 1 (by omega) (by omega) (by omega)
  have hH := heldReorderOutS_is outs 1 (by omega) (by omega) (by omega)
  have hnn : ¬ ((!true) = true) := by decide
  rw [r1, some_bind, r2, some_bind]
  simp only [hE, some_bind]
  rw [if_neg hnn, some_bind, decide_eq_false (fun h => h rfl), if_neg nft, hEv, some_bind, if_neg hnn, m1, some_bind, if_neg (by omega), some_bind, if_neg nft, hM, some_bind, hH, some_bind, if_neg (by omega), if_neg (fun h => h rfl), some_bind, if_neg nft]
end Go.AK
