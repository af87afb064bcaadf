/- The law FnDeath answers true for all of its arguments. Conditions: the kinds of the arguments. -/
import Derived.Test.YtlladicdmmdboaaPureFnDeath3
set_option linter.unusedSimpArgs false
set_option linter.unusedVariables false
namespace Go.AK
open Go
section
variable {I W R MR DA PE : Int}
theorem rd_mid {α : Type} {z : α} {p s : List α} {x : α} {i : Int} (h : (p.length : Int) = i) (post : List α) : rd z (p ++ (x :: s) ++ post) i = x := by
  rw [List.append_assoc, List.cons_append]; exact rd_app h
theorem ticks_run (hc : Cfg I W R MR DA PE) (l rest : List S63) (len : Int) (hl : len = l.length) (hl2 : l.length ≤ 4000) (wl : List Int) (at_ ticks n : Int) (N : Nat) (hN : n = N) (hn : 1 ≤ n ∧ n ≤ 16) (hw : (wl.length : Int) = DA) (ht : ticks = at_ + 2 * PE) (hat : 0 ≤ at_ ∧ at_ ≤ 3200) (m : Nat) :
    ∀ (t k tm rto cnt pr : Int) (dead : Bool) (outs : List S66), 1 ≤ t → t + m = ticks + 1 → TS MR DA PE wl at_ t k tm rto cnt pr dead → (outs.length : Int) = n + t - 1 → l.drop (n + t - 1).toNat = List.replicate m ⟨3, 0, 0⟩ ++ rest →
    ∃ os tm' rto' cnt' pr', os.length = m ∧ impl_subAfter.l0 l len I W R MR DA PE (n + t - 1) I (tagL 0 N) tm rto cnt pr dead outs = impl_subAfter.l0 l len I W R MR DA PE (n + ticks) I (tagL 0 N) tm' rto' cnt' pr' true (outs ++ os) ∧ l.drop (n + ticks).toNat = rest ∧
      (∀ post : List S66, laws_FnDeath.l3 n at_ ticks I W R MR DA PE wl (outs ++ os ++ post) k t = some (.a ())) := by
  have hp := hc.p
  induction m with
  | zero =>
    intro t k tm rto cnt pr dead outs h1 h2 hs ho hd
    have hdead : dead = true := by
      rcases hs with ⟨a, m, d, k0, km, wd, ae, et, tm1, tm4, ck, hrt⟩ | ⟨d, _⟩
      · exfalso
        have := aEnd_rng MR m (a + rto) (nx MR rto) (nx_rng hrt)
        have e : aEnd MR a rto (m + 1) = aEnd MR (a + rto) (nx MR rto) m := rfl
        omega
      · exact d
    subst hdead
    refine ⟨[], tm, rto, cnt, pr, rfl, by rw [show n + t - 1 = n + ticks by omega]; simp, by rw [show n + ticks = n + t - 1 by omega]; simpa using hd, fun post => ?_⟩
    rw [laws_FnDeath.l3, if_neg (by omega)]
  | succ m ih =>
    intro t k tm rto cnt pr dead outs h1 h2 hs ho hd
    obtain ⟨q1, q2, q3⟩ := suf_cons (i := n + t - 1) (by omega) (show l.drop (n + t - 1).toNat = ⟨3, 0, 0⟩ :: (List.replicate m ⟨3, 0, 0⟩ ++ rest) by rw [hd]; rfl) z63
    obtain ⟨fr, di, tm', rto', cnt', pr', dead', k', kd, r1, r2, r3, r4, r5⟩ := tick_one hc wl at_ ticks n N hN hn hw ht hat.2 t k tm rto cnt pr dead h1 (by omega) hs
    have ho2 : ((outs ++ [(⟨0, fr, [], di, 0⟩ : S66)]).length : Int) = n + (t + 1) - 1 := by simp; omega
    obtain ⟨os, a1, a2, a3, a4, a5, a6, a7, a8⟩ := ih (t + 1) k' tm' rto' cnt' pr' dead' (outs ++ [⟨0, fr, [], di, 0⟩]) (by omega) (by omega) r2 ho2 (by rw [show n + (t + 1) - 1 = n + t - 1 + 1 by omega]; exact q3)
    refine ⟨⟨0, fr, [], di, 0⟩ :: os, a1, a2, a3, a4, by simp [a5], ?_, a7, fun post => ?_⟩
    · rw [impl_subAfter.l0, if_pos (by omega), if_pos (by omega), q2]
      unfold impl_sender_act_v1i223.f
      dsimp only
      rw [if_neg (show ¬ (3 : Int) = 1 by decide), if_neg (show ¬ (3 : Int) = 2 by decide), if_pos rfl, r1, some_bind, some_bind, if_pos (show (outs.length + 1) * 72 ≤ 140737488355328 by omega), some_bind, wi64_in (n := n + t - 1 + 1) (by omega) (by omega)]
      dsimp only
      rw [show n + t - 1 + 1 = n + (t + 1) - 1 by omega, a6]
      congr 1
      simp
    · have hrd : rd z66 (outs ++ (⟨0, fr, [], di, 0⟩ :: os) ++ post) (n + t - 1) = ⟨0, fr, [], di, 0⟩ := rd_mid ho post
      have h8 := a8 post
      rw [show outs ++ [(⟨0, fr, [], di, 0⟩ : S66)] ++ os ++ post = outs ++ (⟨0, fr, [], di, 0⟩ :: os) ++ post by simp] at h8
      have hidx : IntKind.i64.wrap (IntKind.i64.wrap (n + t) - 1) = n + t - 1 := by rw [wi64_in (n := n + t) (by omega) (by omega), wi64_in (by omega) (by omega)]
      rw [laws_FnDeath.l3, if_pos (by omega), hidx, if_pos (by simp; omega), r4, some_bind, hrd]
      dsimp only
      rw [if_neg (fun hh => hh rfl), if_neg (fun hh => hh rfl), decide_eq_false (fun hh => hh rfl), some_bind, if_neg nft, l4_ok _ _ _ _ _ _ _ I _ _ _ _ _ _ _ _ _ _ _ _ _ _ rfl (by omega) r5 fr.length 0 (by omega) (by omega), some_bind]
      dsimp only
      rw [wi64_in (n := t + 1) (by omega) (by omega)]
      exact h8
theorem l5_ok (n u2 : Int) (u3 u5 : Nat) (F : List S68) (u6 : List Int) (u7 u8 : Int) (u9 : List S66) (hF : (F.length : Int) = n - 1) (hn : 1 ≤ n ∧ n ≤ 16) (h : ∀ j : Int, 0 ≤ j → j < F.length → (rd z68 F j).f0 = 2 ∧ (rd z68 F j).f2 = 7 * (j + 1)) (m : Nat) : ∀ j : Int, 0 ≤ j → n - 1 - j ≤ m →
    laws_FnDeath.l5 n u2 u3 F u5 u6 u7 u8 u9 j = some (.a ()) := by
  induction m with
  | zero => intro j h0 h1; rw [laws_FnDeath.l5, wi64_in (n := n - 1) (by omega) (by omega), if_neg (by omega)]
  | succ m ih =>
    intro j h0 h1
    rw [laws_FnDeath.l5, wi64_in (n := n - 1) (by omega) (by omega)]
    by_cases c : j < n - 1
    · obtain ⟨a1, a2⟩ := h j h0 (by omega)
      rw [if_pos c, if_pos (by omega), if_neg (fun hh => hh a1), wi64_in (n := j + 1) (by omega) (by omega), wi64_in (n := 7 * (j + 1)) (by omega) (by omega), decide_eq_false (fun hh => hh a2), some_bind, if_neg nft]
      exact ih (j + 1) (by omega) (by omega)
    · rw [if_neg c]
theorem cfg_chain (W R MR DA PE : Int) : ((if W ≥ 1 then (if W ≤ 16 then (if R ≥ 1 then (if R ≤ 50 then (if MR ≥ R then (if MR ≤ 400 then (if DA ≥ 1 then (if DA ≤ 8 then (if PE ≥ 1 then (some (decide (PE ≤ 50))) else (some false)) else (some false)) else (some false)) else (some false)) else (some false)) else (some false)) else (some false)) else (some false)) else (some false)) : Option Bool) = some (decide (1 ≤ W ∧ W ≤ 16 ∧ 1 ≤ R ∧ R ≤ 50 ∧ R ≤ MR ∧ MR ≤ 400 ∧ 1 ≤ DA ∧ DA ≤ 8 ∧ 1 ≤ PE ∧ PE ≤ 50)) := by
  by_cases c1 : W ≥ 1
  · by_cases c2 : W ≤ 16
    · by_cases c3 : R ≥ 1
      · by_cases c4 : R ≤ 50
        · by_cases c5 : MR ≥ R
          · by_cases c6 : MR ≤ 400
            · by_cases c7 : DA ≥ 1
              · by_cases c8 : DA ≤ 8
                · by_cases c9 : PE ≥ 1
                  · rw [if_pos c1, if_pos c2, if_pos c3, if_pos c4, if_pos c5, if_pos c6, if_pos c7, if_pos c8, if_pos c9]; congr 1; apply decide_eq_decide.2; omega
                  · rw [if_pos c1, if_pos c2, if_pos c3, if_pos c4, if_pos c5, if_pos c6, if_pos c7, if_pos c8, if_neg c9, decide_eq_false (by omega)]
                · rw [if_pos c1, if_pos c2, if_pos c3, if_pos c4, if_pos c5, if_pos c6, if_pos c7, if_neg c8, decide_eq_false (by omega)]
              · rw [if_pos c1, if_pos c2, if_pos c3, if_pos c4, if_pos c5, if_pos c6, if_neg c7, decide_eq_false (by omega)]
            · rw [if_pos c1, if_pos c2, if_pos c3, if_pos c4, if_pos c5, if_neg c6, decide_eq_false (by omega)]
          · rw [if_pos c1, if_pos c2, if_pos c3, if_pos c4, if_neg c5, decide_eq_false (by omega)]
        · rw [if_pos c1, if_pos c2, if_pos c3, if_neg c4, decide_eq_false (by omega)]
      · rw [if_pos c1, if_pos c2, if_neg c3, decide_eq_false (by omega)]
    · rw [if_pos c1, if_neg c2, decide_eq_false (by omega)]
  · rw [if_neg c1, decide_eq_false (by omega)]
/-- The whole run: frames, ticks, one more frame, an acknowledgement. -/
theorem death_run (hc : Cfg I W R MR DA PE) (wl : List Int) (at_ ticks n : Int) (N M : Nat) (hN : n = N) (hM : ticks = M) (hn : 1 ≤ n ∧ n ≤ W) (hwl : wl = whens MR 0 R DA.toNat) (hae : at_ = aEnd MR 0 R DA.toNat) (ht : ticks = at_ + 2 * PE) :
    ∃ outs, impl_SubRun.f I W R MR DA PE (sendEv 0 N ++ List.replicate M ⟨3, 0, 0⟩ ++ [⟨1, 99, 0⟩] ++ [⟨2, 0, IntKind.u32.wrap (I + 1)⟩]) = some (outs, 0) ∧ (outs.length : Int) = n + ticks + 2 ∧ laws_FnDeath.l3 n at_ ticks I W R MR DA PE wl outs 0 1 = some (.a ()) ∧
      (rd z66 outs (n + ticks)).f0 = 10 ∧ rd z66 outs (n + ticks + 1) = ⟨0, agL (I + 1) (tagL 1 (N - 1)), [0], 0, 1⟩ := by
  have hi := hc.i
  have hw := hc.w
  have hr := hc.r
  have hm := hc.m
  have ha := hc.a
  have hp := hc.p
  have hat := aEnd_rng MR DA.toNat 0 R (by omega)
  have hat2 : 0 ≤ at_ ∧ at_ ≤ 3200 := by
    rw [hae]
    refine ⟨hat.1, Int.le_trans hat.2 ?_⟩
    have : MR * (DA.toNat : Int) ≤ 400 * 8 := Int.mul_le_mul (by omega) (by omega) (by omega) (by omega)
    omega
  obtain ⟨L, hL⟩ : ∃ L : List S63, L = sendEv 0 N ++ List.replicate M ⟨3, 0, 0⟩ ++ [⟨1, 99, 0⟩] ++ [⟨2, 0, IntKind.u32.wrap (I + 1)⟩] := ⟨_, rfl⟩
  have hlen : (L.length : Int) = n + ticks + 2 := by rw [hL]; simp [sendEv_len]; omega
  have hwlen : (wl.length : Int) = DA := by rw [hwl, whens_len]; omega
  obtain ⟨outs1, s1, s2, s3⟩ := sends_run hc L (List.replicate M ⟨3, 0, 0⟩ ++ ([⟨1, 99, 0⟩] ++ [⟨2, 0, IntKind.u32.wrap (I + 1)⟩])) (L.length : Int) n rfl (by omega) hn.2 N 0 0 [] [] (by omega) (by omega) (by rw [hL]; simp) rfl rfl (.inl rfl)
  have hTS : TS MR DA PE wl at_ 1 0 (if N = 0 then 0 else R) R 0 0 false := by
    obtain ⟨m, hm'⟩ : ∃ m, DA.toNat = m + 1 := ⟨DA.toNat - 1, by omega⟩
    refine .inl ⟨0, m, rfl, Int.le_refl _, by omega, ?_, ?_, ?_, ?_, ?_, rfl, by omega⟩
    · rw [hwl, hm']; rfl
    · rw [hae, hm']
    · rw [if_neg (by omega)]; omega
    · rw [if_neg (by omega)]; omega
    · rw [if_neg (by omega)]; omega
  obtain ⟨os, tm', rto', cnt', pr', t1, t2, t3, t4⟩ := ticks_run hc L ([⟨1, 99, 0⟩] ++ [⟨2, 0, IntKind.u32.wrap (I + 1)⟩]) (L.length : Int) rfl (by omega) wl at_ ticks n N hN (by omega) hwlen ht hat2 M 1 0 _ R 0 0 false outs1 (Int.le_refl _) (by omega) hTS (by omega) (by rw [show n + 1 - 1 = n by omega]; exact s3)
  rw [show n + 1 - 1 = n by omega] at t2
  obtain ⟨a1, a2, a3⟩ := suf_cons (i := n + ticks) (by omega) (show L.drop (n + ticks).toNat = ⟨1, 99, 0⟩ :: [⟨2, 0, IntKind.u32.wrap (I + 1)⟩] from t3) z63
  obtain ⟨b1, b2, b3⟩ := suf_cons (i := n + ticks + 1) (by omega) a3 z63
  have hTl : (tagL 0 N).length = N := tagL_len N 0
  obtain ⟨N', rfl⟩ : ∃ N', N = N' + 1 := ⟨N - 1, by omega⟩
  have hT1 : List.drop (1 : Nat) (tagL 0 (N' + 1)) = tagL 1 N' := rfl
  have hT2 : List.take (1 : Nat) (tagL 0 (N' + 1)) = [0] := by simp [tagL]
  have hk : IntKind.u32.wrap (IntKind.u32.wrap (I + 1) - I) = 1 := by rw [wu32, wu32]; omega
  have hseq : agL (IntKind.u32.wrap (I + 1)) (tagL 1 N') = agL (I + 1) (tagL 1 N') := agL_mod _ (by rw [wu32]; omega)
  have ol : ((outs1 ++ os).length : Int) = n + ticks := by simp [t1]; omega
  have ACK : ∃ b T x1 x2 x3 x4 x5, impl_ackSeq_happen.f (IntKind.u32.wrap (I + 1)) I W R MR DA PE I (tagL 0 (N' + 1)) tm' rto' cnt' pr' true = some (0, agL (I + 1) (tagL 1 N'), [0], 0, 1, b, T, x1, x2, x3, x4, x5) := by
    unfold impl_ackSeq_happen.f
    rw [hk, wu64_in (n := 1) (by omega) (by omega), hTl, wu64_in (by omega) (by omega), if_neg (by omega), if_pos (by omega), show (1 : Int).toNat = 1 from rfl, hT1, hT2, if_pos (by omega), if_pos (by omega), if_pos rfl, calm_impl, some_bind, again_impl _ _ _ _ _ _ _ (by rw [tagL_len]; omega), some_bind, some_bind, hseq]
    exact ⟨_, _, _, _, _, _, _, rfl⟩
  obtain ⟨b, T', x1, x2, x3, x4, x5, ACK⟩ := ACK
  refine ⟨outs1 ++ os ++ ([⟨10, [], [], 0, 0⟩] ++ [⟨0, agL (I + 1) (tagL 1 N'), [0], 0, 1⟩]), ?_, ?_, t4 _, ?_, ?_⟩
  · unfold impl_SubRun.f impl_subAfter.f impl_validSub.f impl_newSender.f
    rw [cfg_chain, decide_eq_true (by omega), some_bind, ← hL, if_neg (show ¬ ((!true) = true) by decide), if_neg (show ¬ (L.length : Int) > 4000 by omega), some_bind]
    dsimp only
    rw [s1, List.nil_append, t2, impl_subAfter.l0, if_pos (by omega), if_pos (by omega), a2]
    unfold impl_sender_act_v1i219.f impl_sendTag_happen.f
    dsimp only
    rw [if_pos rfl, if_pos rfl, some_bind, some_bind, if_pos (show ((outs1 ++ os).length + 1) * 72 ≤ 140737488355328 by omega), some_bind, wi64_in (n := n + ticks + 1) (by omega) (by omega)]
    dsimp only
    have ol2 : ((outs1 ++ os ++ [(⟨10, [], [], 0, 0⟩ : S66)]).length : Int) = n + ticks + 1 := len_snoc ol
    rw [impl_subAfter.l0, if_pos (by omega), if_pos (by omega), b2]
    unfold impl_sender_act_v1i221.f
    dsimp only
    rw [if_neg (show ¬ (2 : Int) = 1 by decide), if_pos rfl, ACK, some_bind, some_bind, if_pos (by omega), some_bind, wi64_in (n := n + ticks + 1 + 1) (by omega) (by omega), impl_subAfter.l0, if_neg (by omega), some_bind]
    dsimp only
    rw [some_bind]
    simp
  · simp [t1]; omega
  · rw [← List.append_assoc, rd_mid ol]
  · rw [← List.append_assoc, rd_app (len_snoc ol)]
    simp
end
theorem FnDeath_pure (l : List Int) (hl : l.length ≤ maxLen) (hb : ∀ z ∈ l, (Lit.int .u8 z).wf = true) : laws_FnDeath.f l = some true := by
  unfold laws_FnDeath.f
  by_cases c : (l.length : Int) > 1048576
  · rw [if_pos c]
  rw [if_neg c]
  obtain ⟨I, W, R, MR, DA, PE, evs, e1, hD⟩ := draw_ok l (by omega)
  rw [e1, some_bind]
  dsimp only
  unfold spec_SubRun_v1n.f spec_l4Run_v1n.f spec_l4ConfigOK.f impl_SubRun_v1n.f impl_subAfter_v1n.f impl_validSub.f
  rw [cfg_chain, some_bind, some_bind]
  by_cases hB : 1 ≤ W ∧ W ≤ 16 ∧ 1 ≤ R ∧ R ≤ 50 ∧ R ≤ MR ∧ MR ≤ 400 ∧ 1 ≤ DA ∧ DA ≤ 8 ∧ 1 ≤ PE ∧ PE ≤ 50
  · rw [decide_eq_true hB]
    have hc : Cfg I W R MR DA PE := ⟨hD.i, by omega, by omega, by omega, by omega, by omega⟩
    have hi := hc.i
    have ha := hc.a
    have hp := hc.p
    have hr := hc.r
    have hm := hc.m
    have hnt : ¬ ((!true) = true) := by decide
    obtain ⟨n, hn⟩ : ∃ n, n = 1 + (l.length : Int) % W := ⟨_, rfl⟩
    have hm1 := Int.emod_nonneg (l.length : Int) (show W ≠ 0 by omega)
    have hm2 := Int.emod_lt_of_pos (l.length : Int) (show 0 < W by omega)
    have hwr : IntKind.i64.wrap (1 + (l.length : Int).tmod W) = n := by rw [Int.tmod_eq_emod_of_nonneg (by omega), wi64_in (by omega) (by omega), hn]
    have hat := aEnd_rng MR DA.toNat 0 R (by omega)
    have hat2 : 0 ≤ aEnd MR 0 R DA.toNat ∧ aEnd MR 0 R DA.toNat ≤ 3200 := by
      refine ⟨hat.1, Int.le_trans hat.2 ?_⟩
      have : MR * (DA.toNat : Int) ≤ 400 * 8 := Int.mul_le_mul (by omega) (by omega) (by omega) (by omega)
      omega
    obtain ⟨at_, hae⟩ : ∃ a, a = aEnd MR 0 R DA.toNat := ⟨_, rfl⟩
    have S := sends_loop l n I W R MR DA PE (by omega) n.toNat 0 [] (by omega) (by omega) rfl
    have Wh := when_loop n I W R MR DA PE (sendEv 0 n.toNat) (by omega) (by omega) DA.toNat 0 0 R [] (by omega) (by omega) rfl (by omega) (by omega) (by omega)
    have hti : IntKind.i64.wrap (at_ + IntKind.i64.wrap (2 * PE)) = at_ + 2 * PE := by rw [wi64_in (n := 2 * PE) (by omega) (by omega), wi64_in (by omega) (by omega)]
    rw [List.nil_append, ← hae] at Wh
    rw [List.nil_append] at S
    have Tk := tickEv_loop n at_ (at_ + 2 * PE) I W R MR DA PE (whens MR 0 R DA.toNat) (by omega) (at_ + 2 * PE).toNat 0 (sendEv 0 n.toNat) (by omega) (by omega) (by rw [sendEv_len]; omega)
    obtain ⟨outs, d1, d2, d3, d4, d5⟩ := death_run hc (whens MR 0 R DA.toNat) at_ (at_ + 2 * PE) n n.toNat (at_ + 2 * PE).toNat (by omega) (by omega) (by omega) rfl hae rfl
    have hln : (sendEv 0 n.toNat ++ List.replicate (at_ + 2 * PE).toNat (⟨3, 0, 0⟩ : S63)).length = n + (at_ + 2 * PE) := by rw [List.length_append, sendEv_len, List.length_replicate]; omega
    have hln' : (sendEv 0 n.toNat ++ List.replicate (at_ + 2 * PE).toNat (⟨3, 0, 0⟩ : S63)).length ≤ 4000 := by omega
    unfold spec_l4Begin.f spec_l4Run_v1n.l0
    simp only [if_neg hnt, some_bind, show ¬ ((0 : Int) < 0) by decide, if_false, ne_eq, not_true_eq_false]
    rw [if_pos (show ¬ W = 0 by omega), hwr, S, some_bind, Wh, some_bind]
    dsimp only
    rw [hti, Tk, some_bind, if_pos (by omega), if_pos (by omega), d1, some_bind]
    dsimp only
    rw [if_neg (by simp), decide_eq_false (show ¬ ¬ ((outs.length : Int) = _) by omega), some_bind, if_neg nft, d3, some_bind]
    dsimp only
    have e2 : IntKind.i64.wrap ((outs.length : Int) - 1) = n + (at_ + 2 * PE) + 1 := by rw [wi64_in (by omega) (by omega)]; omega
    have e3 : IntKind.i64.wrap ((outs.length : Int) - 2) = n + (at_ + 2 * PE) := by rw [wi64_in (by omega) (by omega)]; omega
    have hT : (tagL 1 (n.toNat - 1)).length = n.toNat - 1 := tagL_len _ _
    have hA : (agL (I + 1) (tagL 1 (n.toNat - 1))).length = n.toNat - 1 := by rw [agL_len, hT]
    have e4 : IntKind.i64.wrap (n - 1) = n - 1 := wi64_in (by omega) (by omega)
    have e5 : ((([(0 : Int)] : List Int).length : Nat) : Int) = 1 := rfl
    rw [e2, e3, if_pos (by omega), if_pos (by omega), d4, d5, e4]
    dsimp only
    rw [if_neg (fun hh => hh rfl), if_neg (fun hh => hh rfl), e5, if_neg (fun hh => hh rfl), if_pos (by omega), show rd 0 [(0 : Int)] 0 = 0 from rfl, if_neg (fun hh => hh rfl), hA, decide_eq_false (show ¬ ¬ (((n.toNat - 1 : Nat) : Int) = n - 1) by omega), some_bind, if_neg nft,
      l5_ok n _ _ _ _ _ _ _ _ (by rw [hA]; omega) (by omega) (fun j j0 j1 => by rw [hA] at j1; rw [ag_rd (n.toNat - 1) (I + 1) 1 j j0 j1]; exact ⟨rfl, by show 7 * (1 + j) = 7 * (j + 1); omega⟩) n.toNat 0 (by omega) (by omega), some_bind]
  · rw [decide_eq_false hB]
    have hnt : (!false) = true := by decide
    rw [if_pos hnt, if_pos hnt, some_bind, some_bind]
    dsimp only
    rw [if_pos (by decide)]
    rfl
end Go.AK
