/- The law FnExactSubRun: a run of events. Conditions: bounds. -/
import Derived.Test.YtlladicdmmdboaaPureSubState1
set_option linter.unusedSimpArgs false
set_option linter.unusedVariables false
namespace Go.AK
open Go
def SubOk (x : S66) : Prop := x.f1.length ≤ 16 ∧ x.f2.length ≤ 16
theorem sub_run {I W R MR DA PE : Int} (hc : Cfg I W R MR DA PE) (l : List S63) (u1 u2 u3 u4 u5 u6 u8 u9 u10 u11 u12 : Int) (u7 : List Int) (u13 : Bool) (hl : l.length ≤ 4000) (s : List S63) (hs : ∀ x ∈ s, 0 ≤ x.f2 ∧ x.f2 < 4294967296) :
    ∀ (i : Int) (S : List Int) (d tm rto cnt pr : Int) (dead : Bool) (base : Int) (T : List Int) (outs : List S66), 0 ≤ i → i ≤ l.length → l.drop i.toNat = s → Rel I W i S d tm rto cnt pr dead base T → (outs.length : Int) = i → (∀ x ∈ outs, SubOk x) →
    ∃ S' d' tm' rto' cnt' pr' dead' base' T' outs', spec_l4Run.l0 l u1 u2 u3 u4 u5 u6 u7 u8 u9 u10 u11 u12 u13 I W R MR DA PE i S d tm rto cnt pr dead outs = some (S', d', tm', rto', cnt', pr', dead', outs') ∧
      impl_subAfter.l0 l (l.length : Int) I W R MR DA PE i base T tm rto cnt pr dead outs = some (base', T', tm', rto', cnt', pr', dead', outs') ∧
      Rel I W l.length S' d' tm' rto' cnt' pr' dead' base' T' ∧ outs'.length = l.length ∧ ∀ x ∈ outs', SubOk x := by
  induction s with
  | nil =>
    intro i S d tm rto cnt pr dead base T outs h0 h1 hd hr ho hk
    have := suf_nil h0 hd
    rw [spec_l4Run.l0, if_neg this, impl_subAfter.l0, if_neg this]
    have hi : i = l.length := by omega
    subst hi
    exact ⟨_, _, _, _, _, _, _, _, _, _, rfl, rfl, hr, by omega, hk⟩
  | cons x t ih =>
    intro i S d tm rto cnt pr dead base T outs h0 h1 hd hr ho hk
    obtain ⟨q1, q2, q3⟩ := suf_cons h0 hd z63
    have hi : 0 ≤ i ∧ i < l.length := ⟨h0, q1⟩
    have hlim : (outs.length + 1) * 72 ≤ 140737488355328 := by omega
    have hlt : i < 4000 := by omega
    have snoc : ∀ (y : S66), SubOk y → ∀ z ∈ outs ++ [y], SubOk z := fun y hy z hz => by
      rcases List.mem_append.1 hz with hz | hz
      · exact hk z hz
      · rw [List.mem_singleton.1 hz]; exact hy
    rw [spec_l4Run.l0, if_pos q1, if_pos hi, q2, impl_subAfter.l0, if_pos q1, if_pos hi, q2, wi64_in (n := i + 1) (by omega) (by omega)]
    unfold spec_l4Step.f
    by_cases k1 : x.f0 = 1
    · obtain ⟨code, fr, S', T', tm', r1, r2, r3, r4⟩ := send_both hc hr hlt x.f1
      unfold impl_sender_act_v1i219.f
      rw [if_pos k1, if_pos k1, r1, r2, some_bind, some_bind, if_pos hlim, some_bind, some_bind, if_pos hlim, some_bind]
      exact ih (fun y hy => hs y (by simp [hy])) (i + 1) _ _ _ _ _ _ _ _ _ _ (by omega) (by omega) q3 r4 (len_snoc ho) (snoc _ ⟨r3, by simp⟩)
    · by_cases k2 : x.f0 = 2
      · obtain ⟨code, fr, ac, re, base', T', d', tm', rto', cnt', pr', dead', r1, r2, r3, r4, r5⟩ := ack_both hc hr hlt x.f2 (hs x (by simp))
        unfold impl_sender_act_v1i221.f
        rw [if_neg k1, if_neg k1, if_pos k2, if_pos k2, r1, r2, some_bind, some_bind, if_pos hlim, some_bind, some_bind, if_pos hlim, some_bind]
        exact ih (fun y hy => hs y (by simp [hy])) (i + 1) _ _ _ _ _ _ _ _ _ _ (by omega) (by omega) q3 r5 (len_snoc ho) (snoc _ ⟨r3, r4⟩)
      · by_cases k3 : x.f0 = 3
        · obtain ⟨fr, di, tm', rto', cnt', pr', dead', r1, r2, r3, r4⟩ := tick_both hc hr hlt
          unfold impl_sender_act_v1i223.f
          rw [if_neg k1, if_neg k1, if_neg k2, if_neg k2, if_pos k3, if_pos k3, r1, r2, some_bind, some_bind, if_pos hlim, some_bind, some_bind, if_pos hlim, some_bind]
          exact ih (fun y hy => hs y (by simp [hy])) (i + 1) _ _ _ _ _ _ _ _ _ _ (by omega) (by omega) q3 r4 (len_snoc ho) (snoc _ ⟨r3, by simp⟩)
        · have hr4 : Rel I W (i + 1) S d tm rto cnt pr dead base T := { hr with n_ := by have := hr.n_; omega, cnt_ := by have := hr.cnt_; omega }
          rw [if_neg k1, if_neg k1, if_neg k2, if_neg k2, if_neg k3, if_neg k3, some_bind, if_pos hlim, if_pos hlim, some_bind]
          exact ih (fun y hy => hs y (by simp [hy])) (i + 1) _ _ _ _ _ _ _ _ _ _ (by omega) (by omega) q3 hr4 (len_snoc ho) (snoc _ ⟨by simp, by simp⟩)
/-- What is checked of a configuration. -/
def cfgB (W R MR DA PE : Int) : Bool := decide (1 ≤ W ∧ W ≤ 16 ∧ 1 ≤ R ∧ R ≤ 50 ∧ R ≤ MR ∧ MR ≤ 400 ∧ 1 ≤ DA ∧ DA ≤ 8 ∧ 1 ≤ PE ∧ PE ≤ 50)
theorem cfg_chain (W R MR DA PE : Int) : ((if W ≥ 1 then (if W ≤ 16 then (if R ≥ 1 then (if R ≤ 50 then (if MR ≥ R then (if MR ≤ 400 then (if DA ≥ 1 then (if DA ≤ 8 then (if PE ≥ 1 then (some (decide (PE ≤ 50))) else (some false)) else (some false)) else (some false)) else (some false)) else (some false)) else (some false)) else (some false)) else (some false)) else (some false)) : Option Bool) = some (cfgB W R MR DA PE) := by
  unfold cfgB
  by_cases c1 : W ≥ 1
  · by_cases c2 : W ≤ 16
    · by_cases c3 : R ≥ 1
      · by_cases c4 : R ≤ 50
        · by_cases c5 : MR ≥ R
          · by_cases c6 : MR ≤ 400
            · by_cases c7 : DA ≥ 1
              · by_cases c8 : DA ≤ 8
                · by_cases c9 : PE ≥ 1
                  · rw [if_pos c1, if_pos c2, if_pos c3, if_pos c4, if_pos c5, if_pos c6, if_pos c7, if_pos c8, if_pos c9]; congr 1; apply decide_eq_decide.2; omega
                  · rw [if_pos c1, if_pos c2, if_pos c3, if_pos c4, if_pos c5, if_pos c6, if_pos c7, if_pos c8, if_neg c9, decide_eq_false (by omega)]
                · rw [if_pos c1, if_pos c2, if_pos c3, if_pos c4, if_pos c5, if_pos c6, if_pos c7, if_neg c8, decide_eq_false (by omega)]
              · rw [if_pos c1, if_pos c2, if_pos c3, if_pos c4, if_pos c5, if_pos c6, if_neg c7, decide_eq_false (by omega)]
            · rw [if_pos c1, if_pos c2, if_pos c3, if_pos c4, if_pos c5, if_neg c6, decide_eq_false (by omega)]
          · rw [if_pos c1, if_pos c2, if_pos c3, if_pos c4, if_neg c5, decide_eq_false (by omega)]
        · rw [if_pos c1, if_pos c2, if_pos c3, if_neg c4, decide_eq_false (by omega)]
      · rw [if_pos c1, if_pos c2, if_neg c3, decide_eq_false (by omega)]
    · rw [if_pos c1, if_neg c2, decide_eq_false (by omega)]
  · rw [if_neg c1, decide_eq_false (by omega)]
theorem Rel.start {I W R MR DA PE : Int} (hc : Cfg I W R MR DA PE) : Rel I W 0 [] 0 0 R 0 0 false I [] where
  d0 := by omega
  d1 := by simp
  n_ := by simp
  t := by simp
  w := by have := hc.w; simp; omega
  b := by have := hc.i; omega
  tm_ := by omega
  rto_ := by have := hc.r; omega
  cnt_ := by omega
  pr_ := by omega
  dd := fun h => by cases h
end Go.AK
