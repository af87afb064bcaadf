/- A run of events at a sender: what comes of each, and what it leaves. Conditions: bounds. -/
import Derived.Test.YtlladicdmmdboaaPureFnSubRecv2
set_option linter.unusedSimpArgs false
set_option linter.unusedVariables false
namespace Go.AK
open Go
inductive Trc (I : Int) : List Int → Int → List S66 → List Int → Int → Prop
  | nil {S : List Int} {d : Int} : Trc I S d [] S d
  | cons {S S1 S2 : List Int} {d d1 d2 : Int} {o : S66} {os : List S66} : StepOk I S d o.f1 o.f2 S1 d1 → Trc I S1 d1 os S2 d2 → Trc I S d (o :: os) S2 d2
structure Sd where
  S : List Int
  d : Int
  tm : Int
  rto : Int
  cnt : Int
  pr : Int
  dead : Bool
section
variable (I W R MR DA PE : Int)
def stepP (s : Sd) (x : S63) : Option (S66 × Sd) := (spec_l4Step.f I W R MR DA PE s.S s.d s.tm s.rto s.cnt s.pr s.dead x.f0 x.f1 x.f2).map fun t =>
  (⟨t.1, t.2.1, t.2.2.1, t.2.2.2.1, t.2.2.2.2.1⟩, ⟨t.2.2.2.2.2.1, t.2.2.2.2.2.2.1, t.2.2.2.2.2.2.2.1, t.2.2.2.2.2.2.2.2.1, t.2.2.2.2.2.2.2.2.2.1, t.2.2.2.2.2.2.2.2.2.2.1, t.2.2.2.2.2.2.2.2.2.2.2⟩)
def runP : Sd → List S63 → Option (List S66 × Sd)
  | s, [] => some ([], s)
  | s, x :: t => stepP I W R MR DA PE s x >>= fun r => runP r.2 t >>= fun q => some (r.1 :: q.1, q.2)
theorem runP_snoc (e : S63) (l : List S63) : ∀ s, runP I W R MR DA PE s (l ++ [e]) = (runP I W R MR DA PE s l >>= fun q => stepP I W R MR DA PE q.2 e >>= fun r => some (q.1 ++ [r.1], r.2)) := by
  induction l with
  | nil => intro s; simp only [runP, List.nil_append, some_bind]
  | cons x t ih =>
    intro s
    simp only [runP, List.cons_append]
    cases stepP I W R MR DA PE s x with
    | none => rfl
    | some r =>
      simp only [some_bind, ih]
      cases runP I W R MR DA PE r.2 t with
      | none => rfl
      | some q =>
        simp only [some_bind]
        cases stepP I W R MR DA PE q.2 e with
        | none => rfl
        | some r => rfl
end
theorem sub_run {I W R MR DA PE : Int} (hc : Cfg I W R MR DA PE) (l : List S63) (u1 u2 u3 u4 u5 u6 u8 u9 u10 u11 u12 : Int) (u7 : List Int) (u13 : Bool) (hl : l.length ≤ 4000) (s : List S63) (hs : ∀ x ∈ s, 0 ≤ x.f2 ∧ x.f2 < 4294967296) :
    ∀ (i : Int) (S : List Int) (d tm rto cnt pr : Int) (dead : Bool) (base : Int) (T : List Int) (outs : List S66), 0 ≤ i → i ≤ l.length → l.drop i.toNat = s → Rel I W i S d tm rto cnt pr dead base T → (outs.length : Int) = i →
    ∃ os q base' T', runP I W R MR DA PE ⟨S, d, tm, rto, cnt, pr, dead⟩ s = some (os, q) ∧ spec_l4Run.l0 l u1 u2 u3 u4 u5 u6 u7 u8 u9 u10 u11 u12 u13 I W R MR DA PE i S d tm rto cnt pr dead outs = some (q.S, q.d, q.tm, q.rto, q.cnt, q.pr, q.dead, outs ++ os) ∧
      impl_subAfter.l0 l (l.length : Int) I W R MR DA PE i base T tm rto cnt pr dead outs = some (base', T', q.tm, q.rto, q.cnt, q.pr, q.dead, outs ++ os) ∧
      Rel I W l.length q.S q.d q.tm q.rto q.cnt q.pr q.dead base' T' ∧ Trc I S d os q.S q.d ∧ os.length = s.length := by
  induction s with
  | nil =>
    intro i S d tm rto cnt pr dead base T outs h0 h1 hd hr ho
    have := suf_nil h0 hd
    rw [spec_l4Run.l0, if_neg this, impl_subAfter.l0, if_neg this]
    have hi : i = l.length := by omega
    subst hi
    exact ⟨[], _, _, _, rfl, by rw [List.append_nil], by rw [List.append_nil], hr, .nil, rfl⟩
  | cons x t ih =>
    intro i S d tm rto cnt pr dead base T outs h0 h1 hd hr ho
    obtain ⟨q1, q2, q3⟩ := suf_cons h0 hd z63
    have hi : 0 ≤ i ∧ i < l.length := ⟨h0, q1⟩
    have hlim : (outs.length + 1) * 72 ≤ 140737488355328 := by omega
    have hlt : i < 1000000 := by omega
    have fin : ∀ (o : S66) (S1 : List Int) (d1 tm1 rto1 cnt1 pr1 : Int) (dead1 : Bool) (base1 : Int) (T1 : List Int), stepP I W R MR DA PE ⟨S, d, tm, rto, cnt, pr, dead⟩ x = some (o, ⟨S1, d1, tm1, rto1, cnt1, pr1, dead1⟩) → StepOk I S d o.f1 o.f2 S1 d1 → Rel I W (i + 1) S1 d1 tm1 rto1 cnt1 pr1 dead1 base1 T1 →
        ∃ os q base' T', runP I W R MR DA PE ⟨S, d, tm, rto, cnt, pr, dead⟩ (x :: t) = some (os, q) ∧ spec_l4Run.l0 l u1 u2 u3 u4 u5 u6 u7 u8 u9 u10 u11 u12 u13 I W R MR DA PE (i + 1) S1 d1 tm1 rto1 cnt1 pr1 dead1 (outs ++ [o]) = some (q.S, q.d, q.tm, q.rto, q.cnt, q.pr, q.dead, outs ++ os) ∧
          impl_subAfter.l0 l (l.length : Int) I W R MR DA PE (i + 1) base1 T1 tm1 rto1 cnt1 pr1 dead1 (outs ++ [o]) = some (base', T', q.tm, q.rto, q.cnt, q.pr, q.dead, outs ++ os) ∧
          Rel I W l.length q.S q.d q.tm q.rto q.cnt q.pr q.dead base' T' ∧ Trc I S d os q.S q.d ∧ os.length = (x :: t).length := fun o S1 d1 tm1 rto1 cnt1 pr1 dead1 base1 T1 hst hok hr1 => by
      obtain ⟨os, q, b', T', e1, e2, e3, e4, e5, e6⟩ := ih (fun y hy => hs y (by simp [hy])) (i + 1) S1 d1 tm1 rto1 cnt1 pr1 dead1 base1 T1 (outs ++ [o]) (by omega) (by omega) q3 hr1 (len_snoc ho)
      refine ⟨o :: os, q, b', T', ?_, ?_, ?_, e4, .cons hok e5, by simp [e6]⟩
      · simp only [runP, hst, some_bind, e1]
      · rw [e2, List.append_assoc]; rfl
      · rw [e3, List.append_assoc]; rfl
    rw [spec_l4Run.l0, if_pos q1, if_pos hi, q2, impl_subAfter.l0, if_pos q1, if_pos hi, q2, wi64_in (n := i + 1) (by omega) (by omega)]
    by_cases k1 : x.f0 = 1
    · obtain ⟨code, fr, S', T', tm', r1, r2, r3, r4, r5⟩ := send_both hc hr hlt x.f1
      have hst : spec_l4Step.f I W R MR DA PE S d tm rto cnt pr dead x.f0 x.f1 x.f2 = some (code, fr, [], 0, 0, S', d, tm', rto, cnt, pr, dead) := by unfold spec_l4Step.f; rw [if_pos k1, r1, some_bind]
      unfold impl_sender_act_v1i219.f
      rw [if_pos k1, r2, hst, some_bind, some_bind, if_pos hlim, some_bind, if_pos hlim, some_bind]
      exact fin ⟨code, fr, [], 0, 0⟩ _ _ _ _ _ _ _ _ _ (by unfold stepP; rw [hst]; rfl) r5 r4
    · by_cases k2 : x.f0 = 2
      · obtain ⟨code, fr, ac, re, base', T', d', tm', rto', cnt', pr', dead', r1, r2, r3, r4, r5, r6, _⟩ := ack_both hc hr hlt x.f2 (hs x (by simp))
        have hst : spec_l4Step.f I W R MR DA PE S d tm rto cnt pr dead x.f0 x.f1 x.f2 = some (code, fr, ac, 0, re, S, d', tm', rto', cnt', pr', dead') := by unfold spec_l4Step.f; rw [if_neg k1, if_pos k2, r1, some_bind]
        unfold impl_sender_act_v1i221.f
        rw [if_neg k1, if_pos k2, r2, hst, some_bind, some_bind, if_pos hlim, some_bind, if_pos hlim, some_bind]
        exact fin ⟨code, fr, ac, 0, re⟩ _ _ _ _ _ _ _ _ _ (by unfold stepP; rw [hst]; rfl) r6 r5
      · by_cases k3 : x.f0 = 3
        · obtain ⟨fr, di, tm', rto', cnt', pr', dead', r1, r2, r3, r4, r5⟩ := tick_both hc hr hlt
          have hst : spec_l4Step.f I W R MR DA PE S d tm rto cnt pr dead x.f0 x.f1 x.f2 = some (0, fr, [], di, 0, S, d, tm', rto', cnt', pr', dead') := by unfold spec_l4Step.f; rw [if_neg k1, if_neg k2, if_pos k3, r1, some_bind]
          unfold impl_sender_act_v1i223.f
          rw [if_neg k1, if_neg k2, if_pos k3, r2, hst, some_bind, some_bind, if_pos hlim, some_bind, if_pos hlim, some_bind]
          exact fin ⟨0, fr, [], di, 0⟩ _ _ _ _ _ _ _ _ _ (by unfold stepP; rw [hst]; rfl) r5 r4
        · have hst : spec_l4Step.f I W R MR DA PE S d tm rto cnt pr dead x.f0 x.f1 x.f2 = some (1, [], [], 0, 0, S, d, tm, rto, cnt, pr, dead) := by unfold spec_l4Step.f; rw [if_neg k1, if_neg k2, if_neg k3]
          have hr4 : Rel I W (i + 1) S d tm rto cnt pr dead base T := { hr with n_ := by have := hr.n_; omega, cnt_ := by have := hr.cnt_; omega }
          rw [if_neg k1, if_neg k2, if_neg k3, hst, some_bind, if_pos hlim, if_pos hlim, some_bind]
          exact fin ⟨1, [], [], 0, 0⟩ _ _ _ _ _ _ _ _ _ (by unfold stepP; rw [hst]; rfl) ⟨.inl ⟨rfl, fun f hf => by cases hf⟩, ⟨0, by show d = d + ((0 : Nat) : Int); omega, by simp⟩, by simp, by simp, hr.d1⟩ hr4
/-- What is checked of a configuration. -/
def cfgB (W R MR DA PE : Int) : Bool := decide (1 ≤ W ∧ W ≤ 16 ∧ 1 ≤ R ∧ R ≤ 50 ∧ R ≤ MR ∧ MR ≤ 400 ∧ 1 ≤ DA ∧ DA ≤ 8 ∧ 1 ≤ PE ∧ PE ≤ 50)
theorem cfg_chain (W R MR DA PE : Int) : ((if W ≥ 1 then (if W ≤ 16 then (if R ≥ 1 then (if R ≤ 50 then (if MR ≥ R then (if MR ≤ 400 then (if DA ≥ 1 then (if DA ≤ 8 then (if PE ≥ 1 then (some (decide (PE ≤ 50))) else (some false)) else (some false)) else (some false)) else (some false)) else (some false)) else (some false)) else (some false)) else (some false)) else (some false)) : Option Bool) = some (cfgB W R MR DA PE) := by
  unfold cfgB
  by_cases c1 : W ≥ 1
  · by_cases c2 : W ≤ 16
    · by_cases c3 : R ≥ 1
      · by_cases c4 : R ≤ 50
        · by_cases c5 : MR ≥ R
          · by_cases c6 : MR ≤ 400
            · by_cases c7 : DA ≥ 1
              · by_cases c8 : DA ≤ 8
                · by_cases c9 : PE ≥ 1
                  · rw [if_pos c1, if_pos c2, if_pos c3, if_pos c4, if_pos c5, if_pos c6, if_pos c7, if_pos c8, if_pos c9]; congr 1; apply decide_eq_decide.2; omega
                  · rw [if_pos c1, if_pos c2, if_pos c3, if_pos c4, if_pos c5, if_pos c6, if_pos c7, if_pos c8, if_neg c9, decide_eq_false (by omega)]
                · rw [if_pos c1, if_pos c2, if_pos c3, if_pos c4, if_pos c5, if_pos c6, if_pos c7, if_neg c8, decide_eq_false (by omega)]
              · rw [if_pos c1, if_pos c2, if_pos c3, if_pos c4, if_pos c5, if_pos c6, if_neg c7, decide_eq_false (by omega)]
            · rw [if_pos c1, if_pos c2, if_pos c3, if_pos c4, if_pos c5, if_neg c6, decide_eq_false (by omega)]
          · rw [if_pos c1, if_pos c2, if_pos c3, if_pos c4, if_neg c5, decide_eq_false (by omega)]
        · rw [if_pos c1, if_pos c2, if_pos c3, if_neg c4, decide_eq_false (by omega)]
      · rw [if_pos c1, if_pos c2, if_neg c3, decide_eq_false (by omega)]
    · rw [if_pos c1, if_neg c2, decide_eq_false (by omega)]
  · rw [if_neg c1, decide_eq_false (by omega)]

def sd0 (R : Int) : Sd := ⟨[], 0, 0, R, 0, 0, false⟩
theorem sub_bad (I W R MR DA PE : Int) (hB : cfgB W R MR DA PE = false) (l : List S63) : spec_SubRun.f I W R MR DA PE l = some ([], 17) ∧ impl_SubRun.f I W R MR DA PE l = some ([], 17) := by
  have hnt : (!false) = true := by decide
  unfold spec_SubRun.f impl_SubRun.f spec_l4Run.f impl_subAfter.f spec_l4ConfigOK.f impl_validSub.f
  rw [cfg_chain, some_bind, some_bind, hB, if_pos hnt, if_pos hnt, some_bind, some_bind]
  exact ⟨rfl, rfl⟩
theorem cfg_of {I W R MR DA PE : Int} (hI : 0 ≤ I ∧ I < 4294967296) (hB : cfgB W R MR DA PE = true) : Cfg I W R MR DA PE := by
  have := of_decide_eq_true hB
  exact ⟨hI, by omega, by omega, by omega, by omega, by omega⟩
theorem of_cfg {I W R MR DA PE : Int} (hc : Cfg I W R MR DA PE) : cfgB W R MR DA PE = true := by
  have h1 := hc.w
  have h2 := hc.r
  have h3 := hc.m
  have h4 := hc.a
  have h5 := hc.p
  exact decide_eq_true (by omega)
theorem sub_ok {I W R MR DA PE : Int} (hc : Cfg I W R MR DA PE) (l : List S63) (hl : l.length ≤ 4000) (hs : ∀ x ∈ l, 0 ≤ x.f2 ∧ x.f2 < 4294967296) :
    ∃ os q base T, runP I W R MR DA PE (sd0 R) l = some (os, q) ∧ spec_SubRun.f I W R MR DA PE l = some (os, 0) ∧ impl_SubRun.f I W R MR DA PE l = some (os, 0) ∧
      (∃ n tm rto cnt pr de, impl_SubState.f I W R MR DA PE l = some (base, n, T, tm, rto, cnt, pr, de, 0)) ∧ Rel I W l.length q.S q.d q.tm q.rto q.cnt q.pr q.dead base T ∧ Trc I [] 0 os q.S q.d ∧ os.length = l.length := by
  have hnt : ¬ ((!true) = true) := by decide
  have k : ¬ (l.length : Int) > 4000 := by omega
  obtain ⟨os, q, base', T', e1, r1, r2, e4, e5, e6⟩ := sub_run hc l 0 0 0 0 0 0 0 0 0 0 0 [] false hl l hs 0 [] 0 0 R 0 0 false I [] [] (by omega) (by omega) rfl (Rel.start hc) rfl
  have hlen := e4.len
  have hn := e4.n_
  have hd := e4.d0
  have h9 : (0 + T'.length) * 8 ≤ 140737488355328 := by omega
  unfold spec_SubRun.f impl_SubRun.f impl_SubState.f spec_l4Run.f impl_subAfter.f spec_l4ConfigOK.f impl_validSub.f
  rw [cfg_chain, some_bind, some_bind, of_cfg hc, if_neg hnt, if_neg hnt, if_neg k, if_neg k]
  unfold spec_l4Begin.f impl_newSender.f impl_sender_view.f impl_sender_next.f impl_mark.f
  have J : ((if q.dead = true then some 1 else some 0) : Option Int) = some (if q.dead = true then 1 else 0) := by split <;> rfl
  simp only [some_bind, r1, r2, J, ne_eq, not_true_eq_false, if_false, if_pos h9, List.nil_append]
  exact ⟨os, q, base', T', e1, rfl, rfl, ⟨_, _, _, _, _, _, rfl⟩, e4, e5, e6⟩
end Go.AK
