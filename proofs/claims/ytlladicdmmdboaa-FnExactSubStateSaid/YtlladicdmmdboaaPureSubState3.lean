/- The law FnExactSubState answers true for all of its arguments. Conditions: the kinds of the arguments. -/
import Derived.Test.YtlladicdmmdboaaPureSubState2
set_option linter.unusedSimpArgs false
set_option linter.unusedVariables false
namespace Go.AK
open Go
theorem view_loop (u1 u2 u3 u4 u5 u6 u8 u9 u10 u11 u12 u14 u15 u17 u18 u19 u20 u21 u22 u23 u25 u26 u27 u28 u29 : Int) (u13 : Bool) (u16 : List Int) (S s : List Int) (hS : S.length ≤ 4001) : ∀ (i : Int) (acc : List Int), 0 ≤ i → i ≤ S.length → S.drop i.toNat = s → acc.length ≤ i →
    spec_l4View.l0 u1 u2 u3 u4 u5 u6 S u8 u9 u10 u11 u12 u13 u14 u15 u16 u17 u18 u19 u20 u21 u22 u23 u25 u26 u27 u28 u29 i acc = some (acc ++ s) := by
  induction s with
  | nil => intro i acc h0 h1 hd ha; rw [spec_l4View.l0, if_neg (suf_nil h0 hd)]; simp
  | cons e t ih =>
    intro i acc h0 h1 hd ha
    obtain ⟨q1, q2, q3⟩ := suf_cons h0 hd 0
    rw [spec_l4View.l0, if_pos q1, if_pos ⟨h0, q1⟩, if_pos (by omega), q2, wi64_in (by omega) (by omega), ih (i + 1) _ (by omega) (by omega) q3 (by simp; omega)]
    simp
theorem state_both (I W R MR DA PE : Int) (hI : 0 ≤ I ∧ I < 4294967296) (l : List S63) (hs : ∀ x ∈ l, 0 ≤ x.f2 ∧ x.f2 < 4294967296) :
    ∃ b n T tm rto cnt pr de code, spec_SubState.f I W R MR DA PE l = some (b, n, T, tm, rto, cnt, pr, de, code) ∧ impl_SubState.f I W R MR DA PE l = some (b, n, T, tm, rto, cnt, pr, de, code) ∧ T.length ≤ 4000 := by
  unfold spec_SubState.f impl_SubState.f spec_l4Run.f impl_subAfter.f spec_l4ConfigOK.f impl_validSub.f
  rw [cfg_chain, some_bind, some_bind]
  cases hB : cfgB W R MR DA PE with
  | false =>
    have hnt : (!false) = true := by decide
    rw [if_pos hnt, if_pos hnt, some_bind, some_bind]
    exact ⟨_, _, _, _, _, _, _, _, _, rfl, rfl, by simp⟩
  | true =>
    have hc : Cfg I W R MR DA PE := by
      have := of_decide_eq_true hB
      exact ⟨hI, by omega, by omega, by omega, by omega, by omega⟩
    have hnt : ¬ ((!true) = true) := by decide
    rw [if_neg hnt, if_neg hnt]
    by_cases k : (l.length : Int) > 4000
    · rw [if_pos k, if_pos k, some_bind, some_bind]
      exact ⟨_, _, _, _, _, _, _, _, _, rfl, rfl, by simp⟩
    · rw [if_neg k, if_neg k]
      unfold spec_l4Begin.f impl_newSender.f
      obtain ⟨S', d', tm', rto', cnt', pr', dead', base', T', outs', r1, r2, r3, r4, r5⟩ := sub_run hc l 0 0 0 0 0 0 0 0 0 0 0 [] false (by omega) l hs 0 [] 0 0 R 0 0 false I [] [] (by omega) (by omega) rfl (Rel.start hc) rfl (fun x hx => by cases hx)
      have h0 := r3.d0
      have h1 := r3.d1
      have hn := r3.n_
      have hl := r3.len
      have hb := r3.b
      have hv := view_loop I W R MR DA PE d' tm' rto' cnt' pr' 0 0 0 0 0 0 0 (IntKind.u32.wrap (I + IntKind.u32.wrap d')) (IntKind.u32.wrap (I + IntKind.u32.wrap (S'.length : Int))) tm' rto' cnt' pr' 0 dead' [] S' T' (by omega) d' [] h0 h1 r3.t.symm (by simpa using h0)
      have J : ((if dead' = true then some 1 else some 0) : Option Int) = some (if dead' = true then 1 else 0) := by split <;> rfl
      have e1 : IntKind.u32.wrap (I + IntKind.u32.wrap d') = base' := by rw [wu32, wu32, hb]; omega
      have e2 : IntKind.u32.wrap (I + IntKind.u32.wrap (S'.length : Int)) = IntKind.u32.wrap (base' + IntKind.u32.wrap (T'.length : Int)) := by rw [wu32, wu32, wu32, wu32, hb]; omega
      have h9 : (0 + T'.length) * 8 ≤ 140737488355328 := by omega
      rw [e1, e2] at hv
      unfold spec_l4View.f impl_sender_view.f impl_sender_next.f impl_mark.f
      simp only [some_bind, r1, r2, hv, J, ne_eq, not_true_eq_false, if_false, if_pos h9, List.nil_append, e1, e2]
      exact ⟨_, _, _, _, _, _, _, _, _, rfl, rfl, by omega⟩
theorem wS63_le (l : List S63) : wS63 l ≤ l.length * 4 := by
  induction l with
  | nil => simp [wS63]
  | cons y t ih => unfold wS63 w63; rw [List.length_cons]; omega
theorem FnExactSubState_pure (I W R MR DA PE : Int) (l : List S164) (h0 : ((Lit.int .u32 I).wf = true) ∧ ((Lit.int .i64 W).wf = true) ∧ ((Lit.int .i64 R).wf = true) ∧ ((Lit.int .i64 MR).wf = true) ∧ ((Lit.int .i64 DA).wf = true) ∧ ((Lit.int .i64 PE).wf = true)) (hl : l.length ≤ maxLen)
    (hs : ∀ y ∈ l, ((Lit.int .i64 y.f0).wf = true) ∧ ((Lit.int .i64 y.f1).wf = true) ∧ ((Lit.int .u32 y.f2).wf = true)) : laws_FnExactSubState.f I W R MR DA PE l = some true := by
  have hI : 0 ≤ I ∧ I ≤ 4294967295 := by simpa [Lit.wf, IntKind.signed, IntKind.bits, IntKind.min, IntKind.max] using h0.1
  have hM : maxLen = 9223372036854775807 := rfl
  by_cases hb : ¬ l.length < 4611686018427387904
  · unfold laws_FnExactSubState.f laws_szSubEventS.f
    rw [wi64_in (by omega) (by omega), if_pos (by omega), some_bind, if_pos (by omega)]
  obtain ⟨r, e1, e2⟩ := szSubEventS_is l 1048576 (by omega) (by omega)
  unfold laws_FnExactSubState.f
  rw [e1, some_bind]
  by_cases k : r < 0
  · rw [if_pos k]
  have hlen : (l.map cv164).length ≤ 1048576 := by rw [List.length_map]; omega
  have hok : ∀ x ∈ l.map cv164, 0 ≤ x.f2 ∧ x.f2 < 4294967296 := fun x hx => by
    obtain ⟨y, hy, rfl⟩ := List.mem_map.1 hx
    have : 0 ≤ y.f2 ∧ y.f2 ≤ 4294967295 := by simpa [Lit.wf, IntKind.signed, IntKind.bits, IntKind.min, IntKind.max] using (hs y hy).2.2
    show 0 ≤ y.f2 ∧ y.f2 < 4294967296; omega
  rw [if_neg k, show laws_toSubConfig.f I W R MR DA PE = some (I, W, R, MR, DA, PE) from rfl, some_bind, toSubEventS_is l (by omega), some_bind]
  generalize l.map cv164 = L at hok hlen
  obtain ⟨b, n, T, tm, rto, cnt, pr, de, code, r1, r2, r3⟩ := state_both I W R MR DA PE (by omega) L hok
  have hw2 := wS63_le L
  have hE := eqSubView_is b n T tm rto cnt pr de (by omega)
  have hEv := eqSubEventS_is L (by omega)
  obtain ⟨k1, l1, g1, g2, g3, g4⟩ := mhSubEventS L 1 (by omega) (by omega)
  obtain ⟨k2, l2, f1, f2, f3, f4, f5⟩ := mhInt64S T 1 (by omega) (by omega)
  have n1 : (k1 < 0) = False := by simp; omega
  have n2 : (k2 < 0) = False := by simp; omega
  simp [r1, r2, hE, hEv, g4, laws_markSubView.f, laws_heldSubView.f, f4, f5, n1, n2]
end Go.AK
