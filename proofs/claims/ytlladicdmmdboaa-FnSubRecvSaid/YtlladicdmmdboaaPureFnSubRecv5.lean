/- The law FnSubRecv answers true for all of its arguments. Conditions: the kinds of the arguments. -/
import Derived.Test.YtlladicdmmdboaaPureFnSubRecv4
set_option linter.unusedSimpArgs false
set_option linter.unusedVariables false
namespace Go.AK
open Go
theorem l0_is {I : Int} (l0 l1 : List Int) (hl1 : l1.length ≤ 1048576) (u3 u4 u5 u6 u7 : Int) (u2 : Int) (u9 : List S63) (os : List S66) (hos : os.length ≤ 500) (s : List S66) :
    ∀ (i n d : Int) (S S2 : List Int) (d2 : Int) (js : List Nat), Trc I S d s S2 d2 → 0 ≤ i → i ≤ os.length → os.drop i.toNat = s → 0 ≤ n → n ≤ 16 * i → 0 ≤ d → d ≤ S.length → S.length ≤ i → (∀ j ∈ js, j < S.length) → js.length ≤ 32 * i →
    ∃ js', laws_FnSubRecv.l0 l0 l1 u2 u3 u4 u5 u6 u7 u9 os os n i S (S.take d.toNat) (sq I js) (tg S js) = some (.a (S2, S2.take d2.toNat, sq I js', tg S2 js')) ∧ (∀ j ∈ js', j < S2.length) ∧ js'.length ≤ 16000 ∧ 0 ≤ d2 ∧ d2 ≤ S2.length ∧ S2.length ≤ 500 := by
  induction s with
  | nil =>
    intro i n d S S2 d2 js ht h0 hil hd hn hn2 hd0 hd1 hS hj hjl
    cases ht
    have hi : ¬ i < (os.length : Int) := suf_nil h0 hd
    rw [laws_FnSubRecv.l0, if_neg hi]
    exact ⟨js, rfl, hj, by omega, hd0, hd1, by omega⟩
  | cons o t ih =>
    intro i n d S S2 d2 js ht h0 hil hd hn hn2 hd0 hd1 hS hj hjl
    obtain ⟨q1, q2, q3⟩ := suf_cons h0 hd z66
    cases ht with
    | @cons _ S1 _ _ d1 _ _ _ hst ht2 =>
    obtain ⟨k, hk1, hk2⟩ := hst.ac_
    have hi : 0 ≤ i ∧ i < (os.length : Int) := ⟨h0, q1⟩
    rw [laws_FnSubRecv.l0, if_pos q1, if_pos hi, if_pos hi, if_neg (fun h => h rfl), some_bind]
    have hne : ¬ (decide ((rd z66 os i).f0 ≠ (rd z66 os i).f0) = true) := by simp
    rw [if_neg hne, l1_is l0 l1 _ _ _ _ _ _ _ i u9 os os S _ _ hi o.f2 (by rw [q2]) hst.l2 o.f2 0 _ (by omega) rfl (by rw [List.length_take]; omega), some_bind]
    obtain ⟨n', js', e1, e2, e3, e4, e5⟩ := l2_is (I := I) l1 hl1 S S1 u2 u3 u4 u5 u6 u7 i u9 os os (S.take d.toNat ++ o.f2) hi o.f1 (by rw [q2]) hst.l1 hst.fr_ (by omega) n js ⟨hn, by omega⟩ hj (by omega)
    have hS1 : S1.length ≤ i + 1 ∧ S.take d.toNat = S1.take d.toNat := by
      rcases hst.fr_ with ⟨h, _⟩ | ⟨tag, h, _⟩
      · subst h; exact ⟨by omega, rfl⟩
      · subst h; exact ⟨by simp; omega, by rw [List.take_append_of_le_length (by omega)]⟩
    have hle := hst.le
    have hacc : S.take d.toNat ++ o.f2 = S1.take d1.toNat := by
      rw [hS1.2, hk2, ← List.take_add, show d.toNat + k = d1.toNat by omega]
    rw [e1, some_bind, hacc, wi64_in (n := i + 1) (by omega) (by omega)]
    exact ih (i + 1) n' d1 S1 S2 d2 js' ht2 (by omega) (by omega) q3 e2 (by omega) (by omega) hle (by omega) e4 (by omega)
/-- what the receiver makes of numbers -/
def gotL (I : Int) : Nat → List Nat → List S74
  | _, [] => []
  | m, j :: js => if j = m then ⟨1, (I + (m + 1 : Nat)) % 4294967296⟩ :: gotL I (m + 1) js else ⟨0, (I + (m : Nat)) % 4294967296⟩ :: gotL I m js
def mE : Nat → List Nat → Nat
  | m, [] => m
  | m, j :: js => if j = m then mE (m + 1) js else mE m js
theorem gotL_len (I : Int) (js : List Nat) : ∀ m, (gotL I m js).length = js.length := by
  induction js with
  | nil => intro m; rfl
  | cons j js ih => intro m; unfold gotL; split <;> simp [ih]
theorem mE_le (L : Nat) (js : List Nat) (h : ∀ j ∈ js, j < L) : ∀ m, m ≤ L → mE m js ≤ L := by
  induction js with
  | nil => intro m hm; exact hm
  | cons j js ih =>
    intro m hm
    unfold mE
    split
    · rename_i c
      have := h j (by simp)
      exact ih (fun x hx => h x (by simp [hx])) (m + 1) (by omega)
    · exact ih (fun x hx => h x (by simp [hx])) m hm
theorem recv_loop {I : Int} (hI : 0 ≤ I ∧ I < 4294967296) (J : List Nat) (hJ : ∀ j ∈ J, j < 100000) (hJl : J.length ≤ 4000) (s : List Nat) (hs : ∀ j ∈ s, j < 100000) : ∀ (i : Int) (m : Nat) (out : List S74), 0 ≤ i → (sq I J).drop i.toNat = sq I s → m ≤ 100000 → out.length ≤ i → i ≤ 4000 →
    impl_RecvRun.l0 (sq I J) ((sq I J).length : Int) ((I + (m : Nat)) % 4294967296) i out = some (out ++ gotL I m s) := by
  induction s with
  | nil =>
    intro i m out h0 hd hm ho hi
    rw [impl_RecvRun.l0, if_neg (suf_nil h0 hd)]; simp [gotL]
  | cons j t ih =>
    intro i m out h0 hd hm ho hi
    obtain ⟨q1, q2, q3⟩ := suf_cons h0 hd 0
    have hj := hs j (by simp)
    have hq1 : i < (J.length : Int) := by rw [← sq_len I J]; exact q1
    rw [impl_RecvRun.l0, if_pos q1, if_pos ⟨h0, q1⟩, q2, wi64_in (n := i + 1) (by omega) (by omega)]
    unfold impl_mark.f gotL
    by_cases c : j = m
    · subst c
      rw [if_pos rfl, some_bind, decide_eq_true rfl, if_pos rfl, if_pos rfl, some_bind, if_pos (by omega), wu32, show ((I + (j : Nat)) % 4294967296 + 1) % 4294967296 = (I + (j + 1 : Nat)) % 4294967296 by omega]
      have hjm : j + 1 ≤ 100000 := by omega
      rw [ih (fun x hx => hs x (by simp [hx])) (i + 1) (j + 1) _ (by omega) q3 hjm (by simp; omega) (by omega)]
      simp
    · have hne : ¬ ((I + (j : Nat)) % 4294967296 = (I + (m : Nat)) % 4294967296) := by omega
      rw [if_neg hne, some_bind, decide_eq_false hne, if_neg nft, if_neg c, some_bind, if_pos (by omega)]
      rw [ih (fun x hx => hs x (by simp [hx])) (i + 1) m _ (by omega) q3 hm (by simp; omega) (by omega)]
      simp
theorem l4_is {I : Int} (hI : 0 ≤ I ∧ I < 4294967296) (S A : List Int) (u3 u4 u5 u6 u7 : Int) (u8 : List S63) (T : List Int) (G : List S74) (hGT : G.length = T.length) (hG : G.length ≤ 4000) (hSl : S.length ≤ 500) (s : List Nat) (hs : ∀ j ∈ s, j < S.length) : ∀ (i : Int) (m : Nat), 0 ≤ i → G.drop i.toNat = gotL I m s → T.drop i.toNat = tg S s → m ≤ S.length → 
    laws_FnSubRecv.l4 I u3 u4 u5 u6 u7 u8 S A T G (m : Int) i = some (.a ((mE m s : Nat) : Int)) := by
  induction s with
  | nil =>
    intro i m h0 hd ht hm
    rw [laws_FnSubRecv.l4, if_neg (suf_nil h0 hd)]; rfl
  | cons j t ih =>
    intro i m h0 hd ht hm
    have hj := hs j (by simp)
    have hd2 : ∃ e t', G.drop i.toNat = e :: t' := by rw [hd]; unfold gotL; split <;> exact ⟨_, _, rfl⟩
    obtain ⟨e, t', hd2⟩ := hd2
    obtain ⟨q1, q2, q3⟩ := suf_cons h0 hd2 z74
    obtain ⟨p1, p2, p3⟩ := suf_cons h0 ht 0
    have hq1 : i < (G.length : Int) := q1
    rw [laws_FnSubRecv.l4, if_pos q1, if_pos ⟨h0, q1⟩, q2]
    unfold mE
    by_cases c : j = m
    · subst c
      have he : e = ⟨1, (I + (j + 1 : Nat)) % 4294967296⟩ ∧ t' = gotL I (j + 1) t := by
        rw [hd] at hd2; unfold gotL at hd2; rw [if_pos rfl] at hd2
        exact ⟨(List.cons.inj hd2).1.symm, (List.cons.inj hd2).2.symm⟩
      obtain ⟨rfl, rfl⟩ := he
      have hrd : rd 0 S (j : Int) = S.getD j 0 := by simp [rd, List.getD]
      have hwr : ¬ ((I + (j + 1 : Nat)) % 4294967296 ≠ IntKind.u32.wrap (I + IntKind.u32.wrap (IntKind.i64.wrap ((j : Int) + 1)))) := by
        rw [wi64_in (by omega) (by omega), wu32, wu32]; simp
      have hdec : ¬ (decide (S.getD j 0 ≠ S.getD j 0) = true) := by simp
      rw [if_pos rfl, if_neg (show ¬ ((j : Int) ≥ (S.length : Int)) by omega), if_pos ⟨h0, p1⟩, if_pos (show 0 ≤ (j : Int) ∧ (j : Int) < (S.length : Int) by omega), p2, hrd, some_bind, if_neg hdec, if_neg hwr, wi64_in (n := (j : Int) + 1) (by omega) (by omega), wi64_in (n := i + 1) (by omega) (by omega), if_pos rfl]
      exact ih (fun x hx => hs x (by simp [hx])) (i + 1) (j + 1) (by omega) q3 p3 (by omega)
    · have he : e = ⟨0, (I + (m : Nat)) % 4294967296⟩ ∧ t' = gotL I m t := by
        rw [hd] at hd2; unfold gotL at hd2; rw [if_neg c] at hd2
        exact ⟨(List.cons.inj hd2).1.symm, (List.cons.inj hd2).2.symm⟩
      obtain ⟨rfl, rfl⟩ := he
      have h01 : ¬ ((0 : Int) = 1) := by decide
      have hwr : ¬ ((I + (m : Nat)) % 4294967296 ≠ IntKind.u32.wrap (I + IntKind.u32.wrap (m : Int))) := by
        rw [wu32, wu32]; simp
      rw [if_neg h01, if_neg hwr, wi64_in (n := i + 1) (by omega) (by omega), if_neg c]
      exact ih (fun x hx => hs x (by simp [hx])) (i + 1) m (by omega) q3 p3 hm
theorem rd_take (S : List Int) (d : Nat) (i : Int) (h0 : 0 ≤ i) (h : i < (S.take d).length) : rd 0 (S.take d) i = rd 0 S i := by
  have : i.toNat < d := by rw [List.length_take] at h; omega
  simp [rd, List.getD, List.getElem?_take_of_lt this]
theorem l5_is (S : List Int) (d : Nat) (hS : S.length ≤ 500) (m : Int) (u2 u3 u4 u5 u6 u7 : Int) (u8 : List S63) (f : Nat) : ∀ i : Int, 0 ≤ i → ((S.take d).length : Int) - i ≤ f → laws_FnSubRecv.l5 m u2 u3 u4 u5 u6 u7 u8 S (S.take d) i = some (.a ()) := by
  have hlen : (S.take d).length ≤ S.length := by rw [List.length_take]; omega
  induction f with
  | zero => intro i h0 h; rw [laws_FnSubRecv.l5, if_neg (by omega)]
  | succ f ih =>
    intro i h0 h
    rw [laws_FnSubRecv.l5]
    by_cases c : i < ((S.take d).length : Int)
    · have hdec : ¬ (decide (rd 0 S i ≠ rd 0 S i) = true) := by simp
      rw [if_pos c, if_neg (by omega), if_pos ⟨h0, c⟩, if_pos (by omega), rd_take S d i h0 c, some_bind, if_neg hdec, wi64_in (by omega) (by omega)]
      exact ih (i + 1) (by omega) (by omega)
    · rw [if_neg c]
theorem lNums_loop (l : List Int) (hl : l.length ≤ 1000) (f : Nat) : ∀ i : Int, 0 ≤ i → (l.length : Int) - i ≤ f → laws_lNums.l0 l l i = some (.a ()) := by
  induction f with
  | zero => intro i h0 h; rw [laws_lNums.l0, if_neg (by omega)]
  | succ f ih =>
    intro i h0 h
    rw [laws_lNums.l0]
    by_cases c : i < (l.length : Int)
    · rw [if_pos c, if_pos ⟨h0, c⟩, if_pos ⟨h0, c⟩, if_neg (fun h => h rfl), wi64_in (by omega) (by omega)]
      exact ih (i + 1) (by omega) (by omega)
    · rw [if_neg c]
theorem lNums_is (l : List Int) (hl : l.length ≤ 1000) : laws_lNums.f l l = some true := by
  unfold laws_lNums.f
  rw [if_neg (fun h => h rfl), lNums_loop l hl l.length 0 (by omega) (by omega), some_bind]
end Go.AK
