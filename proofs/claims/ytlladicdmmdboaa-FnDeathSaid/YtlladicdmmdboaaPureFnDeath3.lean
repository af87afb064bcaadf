/- The law FnDeath: a sender that hears nothing. Conditions: bounds. -/
import Derived.Test.YtlladicdmmdboaaPureFnDeath2
set_option linter.unusedSimpArgs false
set_option linter.unusedVariables false
namespace Go.AK
open Go
def nx (MR r : Int) : Int := if 2 * r > MR then MR else 2 * r
def whens (MR : Int) : Int → Int → Nat → List Int
  | _, _, 0 => []
  | a, r, m + 1 => (a + r) :: whens MR (a + r) (nx MR r) m
def aEnd (MR : Int) : Int → Int → Nat → Int
  | a, _, 0 => a
  | a, r, m + 1 => aEnd MR (a + r) (nx MR r) m
theorem nx_rng {MR r : Int} (h : 1 ≤ r ∧ r ≤ MR) : 1 ≤ nx MR r ∧ nx MR r ≤ MR := by unfold nx; split <;> omega
theorem aEnd_rng (MR : Int) (m : Nat) : ∀ a r : Int, 1 ≤ r ∧ r ≤ MR → a ≤ aEnd MR a r m ∧ aEnd MR a r m ≤ a + MR * m := by
  induction m with
  | zero => intro a r h; simp [aEnd]
  | succ m ih =>
    intro a r h
    have := ih (a + r) (nx MR r) (nx_rng h)
    unfold aEnd
    refine ⟨by omega, ?_⟩
    rw [show MR * ((m + 1 : Nat) : Int) = MR * m + MR by rw [Int.natCast_add, Int.mul_add]; simp]
    omega
theorem whens_len (MR : Int) (m : Nat) : ∀ a r : Int, (whens MR a r m).length = m := by
  induction m with
  | zero => intro a r; rfl
  | succ m ih => intro a r; simp [whens, ih]
def sendEv : Int → Nat → List S63
  | _, 0 => []
  | i, m + 1 => ⟨1, 7 * i, 0⟩ :: sendEv (i + 1) m
def tagL : Int → Nat → List Int
  | _, 0 => []
  | i, m + 1 => (7 * i) :: tagL (i + 1) m
theorem tagL_len (m : Nat) : ∀ i, (tagL i m).length = m := by
  induction m with
  | zero => intro i; rfl
  | succ m ih => intro i; simp [tagL, ih]
theorem sendEv_len (m : Nat) : ∀ i, (sendEv i m).length = m := by
  induction m with
  | zero => intro i; rfl
  | succ m ih => intro i; simp [sendEv, ih]
/-! ### the lists that the law makes -/
theorem sends_loop (u0 : List Int) (n u2 u3 u4 u5 u6 u7 : Int) (hn : n ≤ 1000) (m : Nat) : ∀ (i : Int) (acc : List S63), 0 ≤ i → n - i = m → (acc.length : Int) = i → laws_FnDeath.l0 u0 n u2 u3 u4 u5 u6 u7 i acc = some (acc ++ sendEv i m) := by
  induction m with
  | zero => intro i acc h0 h1 h2; rw [laws_FnDeath.l0, if_neg (by omega)]; simp [sendEv]
  | succ m ih =>
    intro i acc h0 h1 h2
    rw [laws_FnDeath.l0, if_pos (by omega), if_pos (by omega), wi64_in (n := i + 1) (by omega) (by omega), wi64_in (n := 7 * i) (by omega) (by omega), ih (i + 1) _ (by omega) (by omega) (len_snoc h2)]
    simp [sendEv]
theorem when_loop (n u4 u5 u6 MR DA PE : Int) (u10 : List S63) (hMR : MR ≤ 400) (hDA : DA ≤ 8) (m : Nat) : ∀ (i a r : Int) (acc : List Int), 0 ≤ i → DA - i = m → (acc.length : Int) = i → 0 ≤ a → a ≤ 400 * i → 1 ≤ r ∧ r ≤ MR →
    laws_FnDeath.l1 n u4 u5 u6 MR DA PE u10 a r i acc = some (aEnd MR a r m, acc ++ whens MR a r m) := by
  induction m with
  | zero => intro i a r acc h0 h1 h2 h3 h4 h5; rw [laws_FnDeath.l1, if_neg (by omega)]; simp [whens, aEnd]
  | succ m ih =>
    intro i a r acc h0 h1 h2 h3 h4 h5
    have hJ : ((if IntKind.i64.wrap (2 * r) > MR then (some MR) else (some (IntKind.i64.wrap (2 * r)))) : Option Int) = some (nx MR r) := by
      rw [wi64_in (n := 2 * r) (by omega) (by omega)]; unfold nx; split <;> rfl
    rw [laws_FnDeath.l1, if_pos (by omega), if_pos (by omega), hJ, some_bind, wi64_in (n := i + 1) (by omega) (by omega), wi64_in (n := a + r) (by omega) (by omega), ih (i + 1) (a + r) (nx MR r) _ (by omega) (by omega) (len_snoc h2) (by omega) (by omega) (nx_rng h5)]
    simp [whens, aEnd]
theorem tickEv_loop (n at_ ticks u4 u5 u6 u7 u8 u9 : Int) (u11 : List Int) (ht : ticks ≤ 100000) (m : Nat) : ∀ (i : Int) (acc : List S63), 0 ≤ i → ticks - i = m → acc.length ≤ 1000 + i →
    laws_FnDeath.l2 n at_ ticks u4 u5 u6 u7 u8 u9 u11 i acc = some (acc ++ List.replicate m ⟨3, 0, 0⟩) := by
  induction m with
  | zero => intro i acc h0 h1 h2; rw [laws_FnDeath.l2, if_neg (by omega)]; simp
  | succ m ih =>
    intro i acc h0 h1 h2
    rw [laws_FnDeath.l2, if_pos (by omega), if_pos (by omega), wi64_in (n := i + 1) (by omega) (by omega), ih (i + 1) _ (by omega) (by omega) (by simp; omega)]
    simp [List.replicate_succ]
/-! ### sending -/
section
variable {I W R MR DA PE : Int}
theorem sends_run (hc : Cfg I W R MR DA PE) (l rest : List S63) (len n : Int) (hl : len = l.length) (hl2 : l.length ≤ 4000) (hn : n ≤ W) (m : Nat) : ∀ (i tm : Int) (T : List Int) (outs : List S66), 0 ≤ i → i + m = n → l.drop i.toNat = sendEv i m ++ rest → (T.length : Int) = i → (outs.length : Int) = i → (tm = 0 ∨ tm = R) →
    ∃ outs', impl_subAfter.l0 l len I W R MR DA PE i I T tm R 0 0 false outs = impl_subAfter.l0 l len I W R MR DA PE n I (T ++ tagL i m) (if m = 0 then tm else R) R 0 0 false outs' ∧ (outs'.length : Int) = n ∧ l.drop n.toNat = rest := by
  have hr := hc.r
  have hw := hc.w
  induction m with
  | zero =>
    intro i tm T outs h0 h1 hd hT ho ht
    have : i = n := by omega
    subst this
    exact ⟨outs, by simp [tagL], ho, by simpa [sendEv] using hd⟩
  | succ m ih =>
    intro i tm T outs h0 h1 hd hT ho ht
    obtain ⟨q1, q2, q3⟩ := suf_cons h0 (show l.drop i.toNat = ⟨1, 7 * i, 0⟩ :: (sendEv (i + 1) m ++ rest) by rw [hd]; rfl) z63
    obtain ⟨o, ho'⟩ : ∃ o : S66, o = ⟨0, [(⟨1, IntKind.u32.wrap (I + IntKind.u32.wrap (T.length : Int)), 7 * i⟩ : S68)], [], 0, 0⟩ := ⟨_, rfl⟩
    have J : ((if tm = 0 then some R else some tm) : Option Int) = some R := by
      rcases ht with ht | ht
      · rw [if_pos ht]
      · rw [if_neg (by omega), ht]
    obtain ⟨outs', r1, r2, r3⟩ := ih (i + 1) R (T ++ [7 * i]) (outs ++ [o]) (by omega) (by omega) q3 (len_snoc hT) (len_snoc ho) (.inr rfl)
    refine ⟨outs', ?_, r2, r3⟩
    rw [impl_subAfter.l0, if_pos (by omega), if_pos (by omega), q2]
    unfold impl_sender_act_v1i219.f impl_sendTag_happen.f impl_sender_next.f
    dsimp only
    rw [if_pos rfl, if_neg nft, if_neg (show ¬ (T.length : Int) ≥ W by omega), some_bind, some_bind, if_pos (show (T.length + 1) * 8 ≤ 140737488355328 by omega), J, some_bind, some_bind, some_bind, if_pos (show (outs.length + 1) * 72 ≤ 140737488355328 by omega), some_bind, wi64_in (n := i + 1) (by omega) (by omega)]
    dsimp only
    rw [← ho', r1]
    congr 1
    · simp [tagL]
    · simp
/-! ### hearing nothing -/
def TS (MR DA PE : Int) (wl : List Int) (at_ t k tm rto cnt pr : Int) (dead : Bool) : Prop :=
  (∃ (a : Int) (m : Nat), dead = false ∧ 0 ≤ k ∧ k + m + 1 = DA ∧ wl.drop k.toNat = whens MR a rto (m + 1) ∧ at_ = aEnd MR a rto (m + 1) ∧ tm = a + rto - (t - 1) ∧ 1 ≤ tm ∧ tm ≤ 400 ∧ cnt = k ∧ (1 ≤ rto ∧ rto ≤ MR)) ∨
  (dead = true ∧ k = DA ∧ at_ ≤ t - 1 ∧ pr = PE - (t - 1 - at_) % PE)
theorem l4_ok (u0 u1 u2 u3 u4 fr kd I u9 u10 u11 u12 u13 : Int) (u14 : List Int) (u15 : List S66) (u16 : Int) (u17 u19 : Nat) (F : List S68) (u20 : List Int) (u21 u22 : Int) (hfr : fr = F.length) (hF : F.length ≤ 1000)
    (h : ∀ j : Int, 0 ≤ j → j < F.length → (rd z68 F j).f0 = kd ∧ (rd z68 F j).f1 = IntKind.u32.wrap (I + IntKind.u32.wrap j) ∧ (kd = 2 → (rd z68 F j).f2 = 7 * j)) (m : Nat) : ∀ j : Int, 0 ≤ j → fr - j ≤ m →
    laws_FnDeath.l4 u0 u1 u2 u3 u4 fr kd I u9 u10 u11 u12 u13 u14 u15 u16 u17 F u19 u20 u21 u22 j = some (.a ()) := by
  induction m with
  | zero => intro j h0 h1; rw [laws_FnDeath.l4, if_neg (by omega)]
  | succ m ih =>
    intro j h0 h1
    rw [laws_FnDeath.l4]
    by_cases c : j < fr
    · obtain ⟨a1, a2, a3⟩ := h j h0 (by omega)
      rw [if_pos c, if_pos (by omega), if_neg (fun hh => hh a1), if_neg (fun hh => hh a2), wi64_in (n := 7 * j) (by omega) (by omega), wi64_in (n := j + 1) (by omega) (by omega)]
      by_cases c2 : kd = 2
      · rw [if_pos c2, decide_eq_false (fun hh => hh (a3 c2)), some_bind, if_neg nft]; exact ih (j + 1) (by omega) (by omega)
      · rw [if_neg c2, some_bind, if_neg nft]; exact ih (j + 1) (by omega) (by omega)
    · rw [if_neg c]
theorem ag_rd (m : Nat) : ∀ (q i j : Int), 0 ≤ j → j < m → rd z68 (agL q (tagL i m)) j = ⟨2, (q + j) % 4294967296, 7 * (i + j)⟩ := by
  induction m with
  | zero => intro q i j h0 h1; omega
  | succ m ih =>
    intro q i j h0 h1
    by_cases c : j = 0
    · subst c; simp [tagL, agL, rd]
    · have := ih (q + 1) (i + 1) (j - 1) (by omega) (by omega)
      have e : rd z68 (agL q (tagL i (m + 1))) j = rd z68 (agL (q + 1) (tagL (i + 1) m)) (j - 1) := by
        show rd z68 (_ :: _) j = _
        unfold rd
        rw [show j.toNat = (j - 1).toNat + 1 by omega]; rfl
      rw [e, this, show q + 1 + (j - 1) = q + j by omega, show i + 1 + (j - 1) = i + j by omega]
theorem tick_one (hc : Cfg I W R MR DA PE) (wl : List Int) (at_ ticks n : Int) (N : Nat) (hN : n = N) (hn : 1 ≤ n ∧ n ≤ 16) (hw : (wl.length : Int) = DA) (ht : ticks = at_ + 2 * PE) (hat : at_ ≤ 3200) (t k tm rto cnt pr : Int) (dead : Bool) (h1 : 1 ≤ t) (h2 : t ≤ ticks) (hs : TS MR DA PE wl at_ t k tm rto cnt pr dead) :
    ∃ fr di tm' rto' cnt' pr' dead' k' kd, impl_tick_happen.f I W R MR DA PE I (tagL 0 N) tm rto cnt pr dead = some (0, fr, [], di, 0, tm', rto', cnt', pr', dead') ∧ TS MR DA PE wl at_ (t + 1) k' tm' rto' cnt' pr' dead' ∧ fr.length ≤ 16 ∧
      (((if k < (wl.length : Int) then (if 0 ≤ k ∧ k < (wl.length : Int) then (some (decide ((rd 0 wl k) = t))) else none) else (some false)) >>= fun (j152 : Bool) => (if j152 = true then (if IntKind.i64.wrap (k + 1) = (wl.length : Int) then (some (IntKind.i64.wrap (k + 1), 0, 2, 1)) else (some (IntKind.i64.wrap (k + 1), n, 2, 0))) else ((if t > at_ then (if ¬ PE = 0 then (some (decide ((IntKind.i64.wrap (t - at_)).tmod PE = 0))) else none) else (some false)) >>= fun (j167 : Bool) => (if j167 = true then (some (k, 1, 3, 0)) else (some (k, 0, 2, 0)))))) : Option (Int × Int × Int × Int)) = some (k', (fr.length : Int), kd, di) ∧
      (∀ j : Int, 0 ≤ j → j < fr.length → (rd z68 fr j).f0 = kd ∧ (rd z68 fr j).f1 = IntKind.u32.wrap (I + IntKind.u32.wrap j) ∧ (kd = 2 → (rd z68 fr j).f2 = 7 * j)) := by
  have hp := hc.p
  have hr := hc.r
  have hm := hc.m
  have ha := hc.a
  have hi := hc.i
  rcases hs with ⟨a, m, rfl, k0, km, wd, ae, et, tm1, tm4, ck, hrt⟩ | ⟨rfl, ek, dt, ep⟩
  · -- alive
    have ck := ck.symm
    subst ck
    have hrd : k < (wl.length : Int) ∧ rd 0 wl k = a + rto ∧ wl.drop (k + 1).toNat = whens MR (a + rto) (nx MR rto) m := suf_cons k0 (by rw [wd]; rfl) 0
    obtain ⟨q1, q2, q3⟩ := hrd
    have hE := aEnd_rng MR m (a + rto) (nx MR rto) (nx_rng hrt)
    have hE2 : aEnd MR a rto (m + 1) = aEnd MR (a + rto) (nx MR rto) m := rfl
    unfold impl_tick_happen.f
    rw [if_neg nft, if_neg (show ¬ tm = 0 by omega), wi64_in (n := tm - 1) (by omega) (by omega), if_pos q1, if_pos (show 0 ≤ k ∧ k < (wl.length : Int) from ⟨k0, q1⟩), q2, some_bind]
    by_cases c : tm - 1 > 0
    · rw [if_pos c, decide_eq_false (show ¬ a + rto = t by omega), if_neg nft, if_neg (show ¬ t > at_ by omega), some_bind, if_neg nft]
      exact ⟨_, _, _, _, _, _, _, _, _, rfl, .inl ⟨a, m, rfl, k0, km, wd, ae, by omega, by omega, by omega, rfl, hrt⟩, by simp, rfl, fun j j0 j1 => by simp at j1; omega⟩
    · have e1 : a + rto = t := by omega
      rw [if_neg c, decide_eq_true e1, if_pos rfl, wi64_in (n := k + 1) (by omega) (by omega)]
      by_cases c2 : k + 1 = DA
      · have hm0 : m = 0 := by omega
        subst hm0
        have hae : at_ = t := by rw [ae, ← e1]; rfl
        rw [if_pos c2, if_pos (show k + 1 = (wl.length : Int) by omega)]
        exact ⟨_, _, _, _, _, _, _, _, _, rfl, .inr ⟨rfl, c2, by omega, by rw [show t + 1 - 1 - at_ = 0 by omega]; simp⟩, by simp, rfl, fun j j0 j1 => by simp at j1; omega⟩
      · obtain ⟨m', rfl⟩ : ∃ m', m = m' + 1 := ⟨m - 1, by omega⟩
        have hmin : (if MR < IntKind.i64.wrap (2 * rto) then MR else IntKind.i64.wrap (2 * rto)) = nx MR rto := by rw [wi64_in (n := 2 * rto) (by omega) (by omega)]; rfl
        have hlen : (agL I (tagL 0 N)).length = N := by rw [agL_len, tagL_len]
        have hnx := nx_rng hrt
        rw [if_neg c2, if_neg (show ¬ (k + 1 = (wl.length : Int)) by omega), hmin, again_impl _ _ _ _ _ _ _ (by rw [tagL_len]; omega), some_bind]
        refine ⟨_, _, _, _, _, _, _, _, _, rfl, .inl ⟨a + rto, m', rfl, by omega, by omega, q3, by rw [ae, hE2], by omega, by omega, by omega, rfl, hnx⟩, by rw [hlen]; omega, by rw [hlen, hN], fun j j0 j1 => ?_⟩
        rw [hlen] at j1
        rw [ag_rd N I 0 j j0 j1]
        refine ⟨rfl, ?_, fun _ => ?_⟩
        · rw [wu32, wu32]; show (I + j) % 4294967296 = _; omega
        · show 7 * (0 + j) = 7 * j; omega
  · -- dead
    have hmod := Int.emod_nonneg (t - 1 - at_) (show PE ≠ 0 by omega)
    have hmod2 := Int.emod_lt_of_pos (t - 1 - at_) (show 0 < PE by omega)
    have hE : (IntKind.i64.wrap (t - at_)).tmod PE = (t - at_) % PE := by rw [wi64_in (by omega) (by omega), Int.tmod_eq_emod_of_nonneg (by omega)]
    have hstep : (t - at_) % PE = if (t - 1 - at_) % PE + 1 = PE then 0 else (t - 1 - at_) % PE + 1 := by
      have : t - at_ = (t - 1 - at_) + 1 := by omega
      rw [this, ← Int.emod_add_emod]
      split
      · rename_i hh; rw [hh]; exact Int.emod_self
      · rw [Int.emod_eq_of_lt (by omega) (by omega)]
    unfold impl_tick_happen.f
    rw [if_pos rfl, wi64_in (n := pr - 1) (by omega) (by omega), if_neg (show ¬ k < (wl.length : Int) by omega), some_bind, if_neg nft, if_pos (show t > at_ by omega), if_pos (show ¬ PE = 0 by omega), some_bind, hE]
    by_cases c : pr - 1 > 0
    · have hne : ¬ (t - at_) % PE = 0 := by rw [hstep]; split <;> omega
      rw [if_pos c, decide_eq_false hne, if_neg nft]
      exact ⟨_, _, _, _, _, _, _, _, _, rfl, .inr ⟨rfl, ek, by omega, by rw [show t + 1 - 1 - at_ = t - at_ by omega, hstep]; split <;> omega⟩, by simp, rfl, fun j j0 j1 => by simp at j1; omega⟩
    · have he : (t - at_) % PE = 0 := by rw [hstep]; split <;> omega
      rw [if_neg c, decide_eq_true he, if_pos rfl]
      refine ⟨_, _, _, _, _, _, _, _, _, rfl, .inr ⟨rfl, ek, by omega, by rw [show t + 1 - 1 - at_ = t - at_ by omega, he]; omega⟩, by simp, rfl, fun j j0 j1 => ?_⟩
      have : j = 0 := by simp at j1; omega
      subst this
      refine ⟨rfl, ?_, fun hh => absurd hh (by decide)⟩
      show I = _
      rw [wu32, wu32]; omega
end
end Go.AK
