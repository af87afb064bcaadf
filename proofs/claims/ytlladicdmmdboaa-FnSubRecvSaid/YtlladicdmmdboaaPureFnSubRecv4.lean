/- The law's own loops: what is sent, what comes to the receiver. Conditions: bounds. -/
import Derived.Test.YtlladicdmmdboaaPureFnSubRecv3
set_option linter.unusedSimpArgs false
set_option linter.unusedVariables false
namespace Go.AK
open Go
def sq (I : Int) (js : List Nat) : List Int := js.map fun j : Nat => (I + (j : Int)) % 4294967296
def tg (S : List Int) (js : List Nat) : List Int := js.map fun j : Nat => S.getD j 0
theorem tg_snoc (S : List Int) (x : Int) (js : List Nat) (h : ∀ j ∈ js, j < S.length) : tg (S ++ [x]) js = tg S js := by
  unfold tg
  refine List.map_congr_left fun j hj => ?_
  have := h j hj
  simp [List.getD, List.getElem?_append_left this]
theorem sq_len (I : Int) (js : List Nat) : (sq I js).length = js.length := by simp [sq]
theorem tg_len (S : List Int) (js : List Nat) : (tg S js).length = js.length := by simp [tg]
theorem rep_sq (I : Int) (c j : Nat) : List.replicate c ((I + (j : Int)) % 4294967296) = sq I (List.replicate c j) := by simp [sq]
theorem rep_tg (S : List Int) (c j : Nat) : List.replicate c (S.getD j 0) = tg S (List.replicate c j) := by simp [tg]
theorem sq_app (I : Int) (a b : List Nat) : sq I (a ++ b) = sq I a ++ sq I b := by simp [sq]
theorem tg_app (S : List Int) (a b : List Nat) : tg S (a ++ b) = tg S a ++ tg S b := by simp [tg]
theorem l3_is (l1 : List Int) (n u1 u2 u4 u5 u6 u7 u8 u9 u17 seq tag : Int) (u10 : List S63) (u11 u12 : List S66) (u13 u14 : List Int) (hn : 0 ≤ n ∧ n ≤ 1000000) (m : Nat) : ∀ (x : Int) (ss tt : List Int), 0 ≤ x → 2 - x ≤ m → ss.length + m ≤ 1000000 → tt.length + m ≤ 1000000 →
    ∃ c : Nat, c ≤ m ∧ laws_FnSubRecv.l3 l1 n u1 u2 u4 u5 u6 u7 u8 u9 u10 u11 u12 u13 u14 u17 seq tag x ss tt = some (ss ++ List.replicate c seq, tt ++ List.replicate c tag) := by
  have hm2 := Int.tmod_eq_emod_of_nonneg (a := n) (b := 2) hn.1
  have hchain : ∀ x : Int, 0 ≤ x → ∃ b : Bool, ((if x < IntKind.i64.wrap (1 + (n.tmod 2)) then (if (l1.length : Int) > 0 then (if ¬ (l1.length : Int) = 0 then (if 0 ≤ n.tmod (l1.length : Int) ∧ n.tmod (l1.length : Int) < (l1.length : Int) then (some (decide ((rd 0 l1 (n.tmod (l1.length : Int))).tmod 3 > 0))) else none) else none) else (some false)) else (some false)) : Option Bool) = some b ∧ (b = true → x < 2) := fun x hx => by
    rw [hm2, wi64_in (by omega) (by omega)]
    by_cases c1 : x < 1 + n % 2
    · rw [if_pos c1]
      by_cases c2 : (l1.length : Int) > 0
      · have h3 := Int.tmod_eq_emod_of_nonneg (a := n) (b := (l1.length : Int)) hn.1
        have h4 := Int.emod_nonneg n (show (l1.length : Int) ≠ 0 by omega)
        have h5 := Int.emod_lt_of_pos n c2
        rw [if_pos c2, if_pos (by omega), h3, if_pos ⟨h4, h5⟩]
        exact ⟨_, rfl, fun _ => by omega⟩
      · rw [if_neg c2]; exact ⟨_, rfl, fun h => by cases h⟩
    · rw [if_neg c1]; exact ⟨_, rfl, fun h => by cases h⟩
  induction m with
  | zero =>
    intro x ss tt h0 h1 h2 h3
    obtain ⟨b, e1, e2⟩ := hchain x h0
    rw [laws_FnSubRecv.l3, e1, some_bind]
    cases b with
    | true => have := e2 rfl; omega
    | false => exact ⟨0, Nat.le_refl _, by rw [if_neg nft]; simp⟩
  | succ m ih =>
    intro x ss tt h0 h1 h2 h3
    obtain ⟨b, e1, e2⟩ := hchain x h0
    rw [laws_FnSubRecv.l3, e1, some_bind]
    cases b with
    | true =>
      have := e2 rfl
      rw [if_pos rfl, if_pos (by omega), if_pos (by omega), wi64_in (by omega) (by omega)]
      obtain ⟨c, hc1, hc2⟩ := ih (x + 1) (ss ++ [seq]) (tt ++ [tag]) (by omega) (by omega) (by simp; omega) (by simp; omega)
      refine ⟨c + 1, by omega, ?_⟩
      rw [hc2, List.replicate_succ, List.replicate_succ]; simp
    | false => exact ⟨0, Nat.zero_le _, by rw [if_neg nft]; simp⟩

theorem l1_is (u0 l1 : List Int) (u1 u3 u4 u5 u6 u7 u8 i : Int) (u9 : List S63) (u10 outs : List S66) (u12 u14 u15 : List Int) (hi : 0 ≤ i ∧ i < outs.length) (F : List Int) (hF : (rd z66 outs i).f2 = F) (hl : F.length ≤ 16) (s : List Int) : ∀ (k : Int) (acc : List Int), 0 ≤ k → F.drop k.toNat = s → acc.length ≤ 100000 + k → 
    laws_FnSubRecv.l1 l1 u1 i u3 u4 u5 u6 u7 u8 u9 u10 outs u12 u14 u15 k acc = some (acc ++ s) := by
  induction s with
  | nil =>
    intro k acc h0 hd ha
    rw [laws_FnSubRecv.l1, if_pos hi, hF, if_neg (suf_nil h0 hd)]; simp
  | cons e t ih =>
    intro k acc h0 hd ha
    obtain ⟨q1, q2, q3⟩ := suf_cons h0 hd 0
    rw [laws_FnSubRecv.l1, if_pos hi, hF, if_pos q1, if_pos ⟨h0, q1⟩, if_pos (by omega), q2, wi64_in (by omega) (by omega), ih (k + 1) _ (by omega) q3 (by simp; omega)]
    simp
section
variable {I : Int}
/-- frames of an event: those that go out again, or one that goes out first -/
theorem l2_again (l1 : List Int) (hl1 : l1.length ≤ 1048576) (S : List Int) (u3 u4 u5 u6 u7 u8 i : Int) (u9 : List S63) (u10 outs : List S66) (u13 : List Int) (hi : 0 ≤ i ∧ i < outs.length) (F : List S68) (hF : (rd z66 outs i).f1 = F) (hl : F.length ≤ 16) (s : List S68) (hs : ∀ f ∈ s, AgP I S f) :
    ∀ (k n : Int) (js : List Nat), 0 ≤ k → F.drop k.toNat = s → 0 ≤ n → n ≤ 100000 + k → (∀ j ∈ js, j < S.length) → js.length ≤ 100000 + 2 * k →
    ∃ n' js', laws_FnSubRecv.l2 l1 i u3 u4 u5 u6 u7 u8 u9 u10 outs u13 n k S (sq I js) (tg S js) = some (n', S, sq I js', tg S js') ∧ 0 ≤ n' ∧ n' ≤ n + s.length ∧ (∀ j ∈ js', j < S.length) ∧ js'.length ≤ js.length + 2 * s.length := by
  induction s with
  | nil =>
    intro k n js h0 hd hn hn2 hj hjl
    rw [laws_FnSubRecv.l2, if_pos hi, hF, if_neg (suf_nil h0 hd)]
    exact ⟨n, js, rfl, hn, by simp, hj, by simp⟩
  | cons e t ih =>
    intro k n js h0 hd hn hn2 hj hjl
    obtain ⟨q1, q2, q3⟩ := suf_cons h0 hd z68
    obtain ⟨a1, a2⟩ := hs e (by simp)
    rw [laws_FnSubRecv.l2, if_pos hi, hF, if_pos q1, if_pos ⟨h0, q1⟩, q2, wi64_in (n := k + 1) (by omega) (by omega), wi64_in (n := n + 1) (by omega) (by omega)]
    by_cases c : e.f0 = 3
    · rw [if_pos c, some_bind]
      obtain ⟨n', js', e1, e2, e3, e4, e5⟩ := ih (fun f hf => hs f (by simp [hf])) (k + 1) n js (by omega) q3 hn (by omega) hj (by omega)
      exact ⟨n', js', e1, e2, by simp; omega, e4, by simp; omega⟩
    · obtain ⟨j, hj1, hj2, hj3⟩ := a2 c
      rw [if_neg c, if_neg a1, some_bind]
      obtain ⟨cn, hc1, hc2⟩ := l3_is l1 (n + 1) i k u3 u4 u5 u6 u7 u8 e.f0 e.f1 e.f2 u9 u10 outs S u13 (by omega) 2 0 (sq I js) (tg S js) (by omega) (by omega) (by rw [sq_len]; omega) (by rw [tg_len]; omega)
      rw [hc2, some_bind, some_bind, hj2, hj3, rep_sq, rep_tg, ← sq_app, ← tg_app]
      obtain ⟨n', js', e1, e2, e3, e4, e5⟩ := ih (fun f hf => hs f (by simp [hf])) (k + 1) (n + 1) (js ++ List.replicate cn j) (by omega) q3 (by omega) (by omega) (fun x hx => by
        rcases List.mem_append.1 hx with h | h
        · exact hj x h
        · rw [(List.mem_replicate.1 h).2]; exact hj1) (by simp; omega)
      refine ⟨n', js', e1, e2, by simp; omega, e4, ?_⟩
      simp at e5 ⊢; omega
theorem l2_is (l1 : List Int) (hl1 : l1.length ≤ 1048576) (S S1 : List Int) (u3 u4 u5 u6 u7 u8 i : Int) (u9 : List S63) (u10 outs : List S66) (u13 : List Int) (hi : 0 ≤ i ∧ i < outs.length) (F : List S68) (hF : (rd z66 outs i).f1 = F) (hl : F.length ≤ 16) (hf : FrOk I S S1 F) (hS : S.length ≤ 100000)
    (n : Int) (js : List Nat) (hn : 0 ≤ n ∧ n ≤ 100000) (hj : ∀ j ∈ js, j < S.length) (hjl : js.length ≤ 100000) :
    ∃ n' js', laws_FnSubRecv.l2 l1 i u3 u4 u5 u6 u7 u8 u9 u10 outs u13 n 0 S (sq I js) (tg S js) = some (n', S1, sq I js', tg S1 js') ∧ 0 ≤ n' ∧ n' ≤ n + 16 ∧ (∀ j ∈ js', j < S1.length) ∧ js'.length ≤ js.length + 32 := by
  rcases hf with ⟨rfl, ha⟩ | ⟨tag, rfl, rfl⟩
  · obtain ⟨n', js', e1, e2, e3, e4, e5⟩ := l2_again l1 hl1 S1 u3 u4 u5 u6 u7 u8 i u9 u10 outs u13 hi F hF hl F ha 0 n js (by omega) rfl hn.1 (by omega) hj (by omega)
    exact ⟨n', js', e1, e2, by omega, e4, by omega⟩
  · have z0 : (0 : Int) < (([⟨1, (I + S.length) % 4294967296, tag⟩] : List S68).length : Int) := by simp
    have r0 : rd z68 ([⟨1, (I + S.length) % 4294967296, tag⟩] : List S68) 0 = ⟨1, (I + S.length) % 4294967296, tag⟩ := rfl
    have n3 : ¬ ((1 : Int) = 3) := by decide
    rw [laws_FnSubRecv.l2, if_pos hi, hF, if_pos z0, if_pos ⟨Int.le_refl _, z0⟩, r0]
    simp only [if_neg n3, if_true]
    rw [if_pos (by omega), some_bind, wi64_in (n := n + 1) (by omega) (by omega)]
    obtain ⟨cn, hc1, hc2⟩ := l3_is l1 (n + 1) i 0 u3 u4 u5 u6 u7 u8 1 ((I + S.length) % 4294967296) tag u9 u10 outs (S ++ [tag]) u13 (by omega) 2 0 (sq I js) (tg S js) (by omega) (by omega) (by rw [sq_len]; omega) (by rw [tg_len]; omega)
    have hg : (S ++ [tag]).getD S.length 0 = tag := by simp [List.getD]
    rw [hc2, some_bind, some_bind, rep_sq, ← sq_app, ← tg_snoc S tag js hj]
    conv => enter [1, n', 1, js', 1]; rw [show List.replicate cn tag = tg (S ++ [tag]) (List.replicate cn S.length) by rw [← rep_tg, hg], ← tg_app, laws_FnSubRecv.l2, if_pos hi, hF, if_neg (show ¬ (IntKind.i64.wrap (0 + 1) < (([⟨1, (I + S.length) % 4294967296, tag⟩] : List S68).length : Int)) by rw [wi64_in (by omega) (by omega)]; simp)]
    refine ⟨n + 1, _, rfl, by omega, by omega, fun x hx => ?_, by simp; omega⟩
    rw [List.length_append]
    rcases List.mem_append.1 hx with h | h
    · have := hj x h; simp; omega
    · rw [(List.mem_replicate.1 h).2]; simp
end
end Go.AK
