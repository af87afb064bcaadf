/- The law FnSubRecv answers true for all of its arguments. Conditions: the kinds of the arguments. -/
import Derived.Test.YtlladicdmmdboaaPureFnSubRecv5
set_option linter.unusedSimpArgs false
set_option linter.unusedVariables false
namespace Go.AK
open Go
theorem FnSubRecv_pure (l0 l1 : List Int) (hl0 : l0.length ≤ maxLen) (hb0 : ∀ z ∈ l0, (Lit.int .u8 z).wf = true) (hl1 : l1.length ≤ maxLen) (hb1 : ∀ z ∈ l1, (Lit.int .u8 z).wf = true) : laws_FnSubRecv.f l0 l1 = some true := by
  unfold laws_FnSubRecv.f
  by_cases c0 : (l0.length : Int) > 1048576
  · rw [if_pos c0, some_bind, if_pos rfl]
  by_cases c1 : (l1.length : Int) > 1048576
  · rw [if_neg c0, some_bind, decide_eq_true c1, if_pos rfl]
  rw [if_neg c0, some_bind, decide_eq_false c1, if_neg nft]
  obtain ⟨I, W, R, MR, DA, PE, evs, e1, hdr, hev⟩ := draw_ok l0 (by omega)
  rw [e1, some_bind]
  have J : ∃ E, ((if (evs.length : Int) > 500 then (if 0 ≤ 500 ∧ 500 ≤ (evs.length : Int) then (some (List.take 500 evs)) else none) else (some evs)) : Option (List S63)) = some E ∧ E.length ≤ 500 ∧ EvOk E := by
    by_cases c : (evs.length : Int) > 500
    · rw [if_pos c, if_pos ⟨by decide, by omega⟩]
      exact ⟨_, rfl, by rw [List.length_take]; omega, fun x hx => hev x (List.mem_of_mem_take hx)⟩
    · rw [if_neg c]; exact ⟨_, rfl, by omega, hev⟩
  obtain ⟨E, e2, hE, hEv⟩ := J
  dsimp only
  rw [e2, some_bind]
  have hI := hdr.i
  cases hB : cfgB W R MR DA PE with
  | false =>
    obtain ⟨b1, b2⟩ := sub_bad I W R MR DA PE hB E
    rw [b1, b2, some_bind, some_bind]
    have n1 : ¬ ((17 : Int) ≠ 17) := by simp
    have n2 : (17 : Int) ≠ 0 := by decide
    have n3 : ¬ (decide (((([] : List S66).length : Nat) : Int) ≠ ((([] : List S66).length : Nat) : Int)) = true) := by simp
    rw [if_neg n1, some_bind, if_neg n3, if_pos n2]
  | true =>
    have hc := cfg_of hI hB
    obtain ⟨os, q, base, T, r1, r2, r3, _, r4, r5, r6⟩ := sub_ok hc E (by omega) hEv
    obtain ⟨js, a1, a2, a3, a4, a5, a6⟩ := l0_is (I := I) l0 l1 (by omega) W R MR DA PE I E os (by omega) os 0 0 0 [] q.S q.d [] r5 (by omega) (by omega) rfl (by omega) (by omega) (by omega) (by simp) (by simp) (fun j hj => by cases hj) (by simp)
    have hM : mE 0 js ≤ q.S.length := mE_le q.S.length js a2 0 (Nat.zero_le _)
    have n1 : ¬ ((0 : Int) ≠ 0) := by simp
    have n3 : ¬ (decide ((os.length : Int) ≠ (os.length : Int)) = true) := by simp
    rw [r2, r3, some_bind, some_bind, if_neg n1, some_bind, if_neg n3, if_neg n1]
    have a1' : laws_FnSubRecv.l0 l0 l1 I W R MR DA PE E os os 0 0 [] [] [] [] = some (.a (q.S, q.S.take q.d.toNat, sq I js, tg q.S js)) := a1
    rw [a1', some_bind]
    dsimp only
    unfold impl_RecvRun.f
    rw [sq_len]
    by_cases c2 : (js.length : Int) > 4000
    · rw [if_pos c2, some_bind, if_pos c2]; rfl
    rw [if_neg c2]
    have hrecv := recv_loop (I := I) hI js (fun j hj => by have := a2 j hj; omega) (by omega) js (fun j hj => by have := a2 j hj; omega) 0 0 [] (by omega) rfl (by omega) (by simp) (by omega)
    have hI0 : (I + ((0 : Nat) : Int)) % 4294967296 = I := by simp; omega
    rw [hI0, sq_len, List.nil_append] at hrecv
    rw [hrecv, some_bind, some_bind, if_neg c2]
    dsimp only
    have n4 : ¬ (decide (((gotL I 0 js).length : Int) ≠ (js.length : Int)) = true) := by rw [gotL_len]; simp
    rw [if_neg n1, some_bind, if_neg n4]
    have hl4 := l4_is (I := I) hI q.S (q.S.take q.d.toNat) W R MR DA PE E (tg q.S js) (gotL I 0 js) (by rw [gotL_len, tg_len]) (by rw [gotL_len]; omega) a6 js a2 0 0 (by omega) rfl rfl (Nat.zero_le _)
    have hl4' : laws_FnSubRecv.l4 I W R MR DA PE E q.S (q.S.take q.d.toNat) (tg q.S js) (gotL I 0 js) 0 0 = some (.a ((mE 0 js : Nat) : Int)) := hl4
    rw [hl4', some_bind]
    dsimp only
    rw [l5_is q.S q.d.toNat a6 _ _ _ _ _ _ _ _ (q.S.take q.d.toNat).length 0 (by omega) (by omega), some_bind]
    dsimp only
    generalize hm : mE 0 js = m at hM
    have hlim : (E.length + 1) * 24 ≤ 140737488355328 := by omega
    have hsq : IntKind.u32.wrap (I + IntKind.u32.wrap (m : Int)) = (I + (m : Int)) % 4294967296 := by rw [wu32, wu32]; omega
    rw [if_pos hlim, if_pos hlim, hsq]
    obtain ⟨os2, q2, base2, T2, s1, _, s3, ⟨n, tm, rto, cnt, pr, de, s4⟩, s5, s6, s7⟩ := sub_ok hc (E ++ [(⟨2, 0, (I + (m : Int)) % 4294967296⟩ : S63)]) (by simp; omega) (fun x hx => by
      rcases List.mem_append.1 hx with h | h
      · exact hEv x h
      · rw [List.mem_singleton.1 h]; dsimp only; omega)
    -- what the last event does
    have hrl := r4.len
    have hrd0 := r4.d0
    have hrd1 := r4.d1
    obtain ⟨code, fr, ac, re, base', T', d', tm', rto', cnt', pr', dead', t1, _, _, _, t5, _, t7⟩ := ack_both hc r4 (by omega) ((I + (m : Int)) % 4294967296) (by omega)
    have hst : stepP I W R MR DA PE q ⟨2, 0, (I + (m : Int)) % 4294967296⟩ = some (⟨code, fr, ac, 0, re⟩, ⟨q.S, d', tm', rto', cnt', pr', dead'⟩) := by
      unfold stepP spec_l4Step.f
      have h21 : ¬ ((2 : Int) = 1) := by decide
      simp only [if_neg h21, if_true, t1, some_bind]
      rfl
    rw [runP_snoc, r1, some_bind, hst, some_bind] at s1
    obtain ⟨rfl, rfl⟩ : os ++ [(⟨code, fr, ac, 0, re⟩ : S66)] = os2 ∧ (⟨q.S, d', tm', rto', cnt', pr', dead'⟩ : Sd) = q2 := by
      have := Option.some.inj s1
      exact ⟨congrArg Prod.fst this, congrArg Prod.snd this⟩
    have hT2 : T2 = q.S.drop d'.toNat := s5.t
    rw [s3, s4, some_bind, some_bind, some_bind, some_bind]
    dsimp only
    have n5 : ¬ (decide (((os ++ [(⟨code, fr, ac, 0, re⟩ : S66)]).length : Int) ≠ IntKind.i64.wrap ((E.length : Int) + 1)) = true) := by
      rw [wi64_in (by omega) (by omega)]; simp; omega
    rw [if_neg n1, if_neg n1, some_bind, if_neg n5]
    have hrd : rd z66 (os ++ [(⟨code, fr, ac, 0, re⟩ : S66)]) (E.length : Int) = ⟨code, fr, ac, 0, re⟩ := by
      simp [rd, List.getD, ← r6]
    have hin : 0 ≤ (E.length : Int) ∧ (E.length : Int) < ((os ++ [(⟨code, fr, ac, 0, re⟩ : S66)]).length : Int) := by simp; omega
    rw [if_pos hin, hrd]
    have htk : ((q.S.take q.d.toNat).length : Int) = q.d := by rw [List.length_take]; omega
    have hb := r4.b
    rw [htk]
    rcases t7 with ⟨g1, g2, g3⟩ | ⟨g1, g2, g3, g4, g5⟩
    · have hlt : (m : Int) < q.d := by
        rw [hb] at g1; omega
      rw [if_pos hlt, g2]
      have h11 : ((11 : Int) = 11) := rfl
      rw [if_pos h11, hT2, g3, List.length_drop, wi64_in (by omega) (by omega), decide_eq_true (by omega)]
    · have hge : ¬ (m : Int) < q.d := by
        rw [hb] at g1; omega
      have hk : ((I + (m : Int)) % 4294967296 - base) % 4294967296 = (m : Int) - q.d := by rw [hb]; omega
      rw [hk] at g3 g4 g5
      have hd' : d' = (m : Int) := by omega
      rw [if_neg hge, g2, if_neg n1, if_pos (by omega)]
      have hac : ac = List.drop q.d.toNat (List.take (m : Int).toNat q.S) := by
        rw [g4, r4.t, List.drop_take, show ((m : Int) - q.d).toNat = (m : Int).toNat - q.d.toNat by omega]
      have hnot : ¬ ((!true) = true) := by decide
      rw [← hac, lNums_is ac (by rw [hac]; simp; omega), some_bind, some_bind, if_neg hnot, if_pos (by omega), hT2, hd', lNums_is _ (by simp; omega), some_bind]
end Go.AK
