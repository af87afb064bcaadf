/- The program's span functions: what they answer, as plain recursions. Conditions: bounds. -/
import Derived.Test.YtakeenidhkhmiaaPureFnSpans2
set_option linter.unusedSimpArgs false
set_option linter.unusedVariables false
namespace Go.AK
open Go
theorem valid_loop (l : List Span) (hl : l.length ≤ 1000) (xs : List Span) : ∀ (pre : List Span) (i : Int), l = pre ++ xs → (pre.length : Int) = i → (∀ x ∈ xs, 0 ≤ x.f0) →
    impl_validSpans.l0 l (l.length : Int) i = some (if okF (top (-1) pre) xs then .a () else .b false) := by
  induction xs with
  | nil =>
    intro pre i h hi hx
    rw [impl_validSpans.l0, if_neg (by rw [h]; exact nlt_app hi), if_pos (by trivial)]
  | cons x t ih =>
    intro pre i h hi hx
    have hx0 := hx x (by simp)
    have hlt : 0 ≤ i ∧ i < (l.length : Int) := by rw [h]; exact lt_app hi
    have e : rd z31 l i = x := by rw [h]; exact rd_app hi
    have nx := ih (pre ++ [x]) (i + 1) (cons_snoc h) (len_snoc hi) (fun y hy => hx y (by simp [hy]))
    rw [top_snoc] at nx
    rw [impl_validSpans.l0, if_pos hlt.2, if_pos hlt, e, wi64_in (n := i + 1) (by omega) (by omega), nx]
    by_cases c : x.f0 ≥ x.f1
    · rw [if_pos c, some_bind, if_pos rfl, if_neg (fun h => by have := h.2.1; omega)]
    · rw [if_neg c]
      have go : top (-1) pre < x.f0 → (if okF x.f1 t then Lp.a () else Lp.b false) = (if okF (top (-1) pre) (x :: t) then Lp.a () else Lp.b false) := by
        intro h1
        by_cases k : okF x.f1 t
        · rw [if_pos k, if_pos ⟨h1, by omega, k⟩]
        · rw [if_neg k, if_neg (fun h => k h.2.2)]
      by_cases p : i > 0
      · rw [if_pos p, wi64_in (n := i - 1) (by omega) (by omega), if_pos (by omega), some_bind, rd_last (b := -1) h hi p]
        by_cases d : x.f0 ≤ top (-1) pre
        · rw [if_pos (decide_eq_true d), if_neg (fun h => by have := h.1; omega)]
        · rw [if_neg (by simpa using d), go (by omega)]
      · have hp : pre = [] := List.length_eq_zero_iff.1 (by omega)
        rw [if_neg p, some_bind, if_neg nft, go (by rw [hp]; simp only [top]; omega)]
theorem valid_good (l : List Span) (a b : Int) (hx : ∀ x ∈ l, 0 ≤ x.f0) (hs : setok l = true) (hab : a ≤ b) : impl_validSpans.f l a b = some true := by
  obtain ⟨h1, h2⟩ := setok_of hs
  unfold impl_validSpans.f
  rw [if_neg (by omega), some_bind, if_neg (by simpa using hab), valid_loop l h1 l [] 0 rfl rfl hx]
  have k : okF (top (-1) []) l := h2
  rw [if_pos k]; rfl
theorem valid_bad (l : List Span) (a b : Int) (hx : ∀ x ∈ l, 0 ≤ x.f0) (h : ¬ (setok l = true ∧ a ≤ b)) : impl_validSpans.f l a b = some false := by
  unfold impl_validSpans.f
  by_cases c : (l.length : Int) > 1000
  · rw [if_pos c]; rfl
  · rw [if_neg c, some_bind]
    by_cases d : a > b
    · rw [if_pos (decide_eq_true d)]
    · rw [if_neg (by simpa using d), valid_loop l (by omega) l [] 0 rfl rfl hx]
      rw [if_neg (fun k : okF (top (-1) []) l => h ⟨setok_is (by omega) k, by omega⟩)]; rfl
theorem lim_step (R : List Span) : (impl_limited.f R >>= fun t13 => (match t13.1 with | none => (some (R, t13.2)) | some p17 => (some (p17, t13.2)))) = some (lim R) := by
  unfold impl_limited.f lim
  split <;> rfl
theorem fit2 {α : Type} (out : List α) (x : α) (h : out.length ≤ 100000) : ((out ++ [x]).length + 1) * 16 ≤ 140737488355328 := by
  have e : (out ++ [x]).length = out.length + 1 := by simp
  omega
-- cutting
theorem cut_loop (l : List Span) (a b : Int) (hl : l.length ≤ 1000) (xs : List Span) : ∀ (i : Int) (out : List Span), 0 ≤ i → l.drop i.toNat = xs → (out.length : Int) ≤ 2 * i →
    impl_SpanCut.l0 l (l.length : Int) a b i out = some (out ++ cutL a b xs) := by
  induction xs with
  | nil => intro i out h0 hd ho; rw [impl_SpanCut.l0, if_neg (suf_nil h0 hd)]; simp [cutL]
  | cons x t ih =>
    intro i out h0 hd ho
    obtain ⟨q1, q2, q3⟩ := suf_cons h0 hd z31
    have g1 : (out.length + 1) * 16 ≤ 140737488355328 := by omega
    have nx : ∀ o : List Span, o.length ≤ 2 → impl_SpanCut.l0 l (l.length : Int) a b (i + 1) (out ++ o) = some (out ++ (o ++ cutL a b t)) := by
      intro o h
      rw [ih (i + 1) _ (by omega) q3 (by rw [List.length_append]; omega), List.append_assoc]
    rw [impl_SpanCut.l0, if_pos q1, if_pos ⟨h0, q1⟩, q2, wi64_in (n := i + 1) (by omega) (by omega), cutL, cutP]
    have whole : (a = b ∨ x.f1 ≤ a ∨ x.f0 ≥ b) → (if a = b then (some true) else (if x.f1 ≤ a then (some true) else (some (decide (x.f0 ≥ b))))) = some true := by
      intro h
      split
      · rfl
      split
      · rfl
      · rw [decide_eq_true]; omega
    by_cases c : a = b ∨ x.f1 ≤ a ∨ x.f0 ≥ b
    · rw [whole c, if_pos c, some_bind, if_pos rfl, if_pos g1, some_bind]
      exact nx [x] (by simp)
    · have hn : (if a = b then (some true) else (if x.f1 ≤ a then (some true) else (some (decide (x.f0 ≥ b))))) = some false := by
        rw [if_neg (by omega), if_neg (by omega), decide_eq_false (by omega)]
      rw [hn, if_neg c, some_bind, if_neg nft]
      by_cases d : x.f0 < a
      · rw [if_pos d, if_pos g1, some_bind, if_pos d]
        by_cases e : x.f1 > b
        · have g2 : ((out ++ ([(⟨x.f0, a⟩ : S31)] : List S31)).length + 1) * 16 ≤ 140737488355328 := fit2 out _ (by omega)
          rw [if_pos e, if_pos g2, some_bind, if_pos e, List.append_assoc]
          exact nx ([⟨x.f0, a⟩] ++ [⟨b, x.f1⟩]) (by simp)
        · rw [if_neg e, some_bind, if_neg e]
          exact nx [_] (by simp)
      · rw [if_neg d, some_bind, if_neg d]
        by_cases e : x.f1 > b
        · rw [if_pos e, if_pos g1, some_bind, if_pos e]
          exact nx [_] (by simp)
        · rw [if_neg e, some_bind, if_neg e]
          have := nx [] (by simp)
          simpa using this
theorem cut_is (l : List Span) (a b : Int) (hx : ∀ x ∈ l, 0 ≤ x.f0) (hs : setok l = true) (hab : a ≤ b) : impl_SpanCut.f l a b = some (lim (cutL a b l)) := by
  unfold impl_SpanCut.f
  rw [valid_good l a b hx hs hab, some_bind, if_neg (by decide), cut_loop l a b (setok_of hs).1 l 0 [] (by omega) rfl (by simp), some_bind]
  exact lim_step _
theorem cut_bad (l : List Span) (a b : Int) (hx : ∀ x ∈ l, 0 ≤ x.f0) (h : ¬ (setok l = true ∧ a ≤ b)) : impl_SpanCut.f l a b = some ([], 1) := by
  unfold impl_SpanCut.f
  rw [valid_bad l a b hx h]; rfl
-- gaps
theorem gaps_loop (l : List Span) (a b : Int) (hl : l.length ≤ 1000) (xs : List Span) : ∀ (lo i : Int) (out : List Span), 0 ≤ i → i ≤ l.length → l.drop i.toNat = xs → (out.length : Int) ≤ i →
    ∃ y, impl_SpanGaps.l0 l (l.length : Int) a b lo i out = some y ∧ (y.2 ++ if y.1 < b then [⟨y.1, b⟩] else []) = out ++ gapsL b lo xs ∧ y.2.length ≤ 1000 := by
  induction xs with
  | nil =>
    intro lo i out h0 h1 hd ho
    rw [impl_SpanGaps.l0, if_neg (suf_nil h0 hd)]
    exact ⟨_, rfl, rfl, by show out.length ≤ 1000; omega⟩
  | cons x t ih =>
    intro lo i out h0 h1 hd ho
    obtain ⟨q1, q2, q3⟩ := suf_cons h0 hd z31
    rw [impl_SpanGaps.l0, if_pos q1, if_pos ⟨h0, q1⟩, q2, wi64_in (n := i + 1) (by omega) (by omega), gapsL]
    have hj : (if x.f1 ≤ lo then (some true) else (some (decide (x.f0 ≥ b)))) = some (decide (x.f1 ≤ lo ∨ x.f0 ≥ b)) := by
      split
      · rw [decide_eq_true]; omega
      · congr 1; rw [decide_eq_decide]; omega
    rw [hj, some_bind]
    by_cases c : x.f1 ≤ lo ∨ x.f0 ≥ b
    · rw [if_pos (decide_eq_true c), if_pos c, some_bind]
      exact ih lo (i + 1) out (by omega) (by omega) q3 (by omega)
    · rw [if_neg (by simpa using c), if_neg c]
      by_cases d : lo < x.f0
      · rw [if_pos d, if_pos (by omega), some_bind, some_bind, if_pos d]
        obtain ⟨y, y1, y2, y3⟩ := ih x.f1 (i + 1) (out ++ [⟨lo, x.f0⟩]) (by omega) (by omega) q3 (by rw [List.length_append, List.length_singleton]; omega)
        exact ⟨y, y1, by rw [y2, List.append_assoc], y3⟩
      · rw [if_neg d, some_bind, some_bind, if_neg d]
        exact ih x.f1 (i + 1) out (by omega) (by omega) q3 (by omega)
theorem gaps_is (l : List Span) (a b : Int) (hx : ∀ x ∈ l, 0 ≤ x.f0) (hs : setok l = true) (hab : a ≤ b) : impl_SpanGaps.f l a b = some (lim (gapsL b a l)) := by
  unfold impl_SpanGaps.f
  obtain ⟨y, y1, y2, y3⟩ := gaps_loop l a b (setok_of hs).1 l a 0 [] (by omega) (by omega) rfl (by simp)
  rw [valid_good l a b hx hs hab, some_bind, if_neg (by decide), y1, some_bind]
  rw [List.nil_append] at y2
  by_cases c : y.1 < b
  · rw [if_pos c] at y2
    rw [if_pos c, if_pos (by omega), some_bind, y2]
    exact lim_step _
  · rw [if_neg c, List.append_nil] at y2
    rw [if_neg c, some_bind, y2]
    exact lim_step _
theorem gaps_bad (l : List Span) (a b : Int) (hx : ∀ x ∈ l, 0 ≤ x.f0) (h : ¬ (setok l = true ∧ a ≤ b)) : impl_SpanGaps.f l a b = some ([], 1) := by
  unfold impl_SpanGaps.f
  rw [valid_bad l a b hx h]; rfl
theorem has_is (l : List Span) (a b : Int) (hx : ∀ x ∈ l, 0 ≤ x.f0) (hs : setok l = true) (hab : a ≤ b) (hg : (gapsL b a l).length ≤ 1000) :
    impl_SpanHas.f l a b = some (if gapsL b a l = [] then 1 else 0, 0) := by
  unfold impl_SpanHas.f
  rw [gaps_is l a b hx hs hab, lim, if_neg (by omega), some_bind, if_neg (by show ¬ ((0 : Int) = 1); decide)]
  by_cases c : gapsL b a l = []
  · rw [if_pos c, c]; rfl
  · rw [if_neg c, if_neg]
    · rfl
    · intro h
      exact c (List.length_eq_zero_iff.1 (by simp only at h; omega))
-- sizes
theorem size_loop (l : List Span) (a b : Int) (hl : l.length ≤ 1000) (xs : List Span) : ∀ (n i : Int), 0 ≤ i → l.drop i.toNat = xs → 0 ≤ n → n + sizeL a b xs < 18446744073709551616 →
    impl_SpanSize.l0 l (l.length : Int) a b n i = some (n + sizeL a b xs) := by
  induction xs with
  | nil => intro n i h0 hd hn hm; rw [impl_SpanSize.l0, if_neg (suf_nil h0 hd)]; simp [sizeL]
  | cons x t ih =>
    intro n i h0 hd hn hm
    obtain ⟨q1, q2, q3⟩ := suf_cons h0 hd z31
    have p0 := part_rng a b x
    have s0 := sizeL_nonneg a b t
    rw [sizeL] at hm ⊢
    have hj : (if (if a > (x.f0) then a else x.f0) < (if b < (x.f1) then b else x.f1) then (some (IntKind.u64.wrap (n + (IntKind.u64.wrap ((if b < (x.f1) then b else x.f1) - (if a > (x.f0) then a else x.f0)))))) else (some n)) = some (n + part a b x) := by
      by_cases c : (if a > x.f0 then a else x.f0) < (if b < x.f1 then b else x.f1)
      · have e : part a b x = (if b < x.f1 then b else x.f1) - (if a > x.f0 then a else x.f0) := if_pos c
        rw [if_pos c, ← e, wu64_in (n := part a b x) (by omega) (by omega), wu64_in (by omega) (by omega)]
      · have e : part a b x = 0 := if_neg c
        rw [if_neg c, e, Int.add_zero]
    rw [impl_SpanSize.l0, if_pos q1, if_pos ⟨h0, q1⟩, q2, hj, some_bind, wi64_in (n := i + 1) (by omega) (by omega), ih (n + part a b x) (i + 1) (by omega) q3 (by omega) (by omega), Int.add_assoc]
theorem size_is (l : List Span) (a b : Int) (hx : ∀ x ∈ l, 0 ≤ x.f0) (hs : setok l = true) (hab : a ≤ b) (hm : sizeL a b l < 18446744073709551616) : impl_SpanSize.f l a b = some (sizeL a b l, 0) := by
  unfold impl_SpanSize.f
  rw [valid_good l a b hx hs hab, some_bind, if_neg (by decide), size_loop l a b (setok_of hs).1 l 0 0 (by omega) rfl (by omega) (by omega), some_bind, Int.zero_add]
-- adding
theorem place_loop (l : List Span) (kk c : Int) (hl : (l.length : Int) ≤ 1000) (hk : ∀ i : Int, 0 ≤ i → i < (l.length : Int) → ((rd z31 l i).f1 < kk ↔ i < c)) (n : Nat) :
    ∀ lo hi : Int, 0 ≤ lo → lo ≤ c → c ≤ hi → hi ≤ (l.length : Int) → hi - lo ≤ n → impl_place_impl_Span_uint64_v2f107.l0 l kk lo hi = some c := by
  induction n with
  | zero =>
    intro lo hi h0 h1 h2 h3 hn
    rw [impl_place_impl_Span_uint64_v2f107.l0, if_neg (by omega)]
    congr 1; omega
  | succ n ih =>
    intro lo hi h0 h1 h2 h3 hn
    by_cases lt : lo < hi
    · have em : IntKind.i64.wrap (Int.tdiv (IntKind.i64.wrap (lo + hi)) 2) = (lo + hi) / 2 := by
        rw [wi64_in (n := lo + hi) (by omega) (by omega), Int.tdiv_eq_ediv_of_nonneg (by omega), wi64_in (by omega) (by omega)]
      have e2 := hk ((lo + hi) / 2) (by omega) (by omega)
      rw [impl_place_impl_Span_uint64_v2f107.l0, if_pos lt, em, if_pos (by omega)]
      show (if (rd z31 l ((lo + hi) / 2)).f1 < kk then _ else _) = _
      by_cases q : (rd z31 l ((lo + hi) / 2)).f1 < kk
      · rw [if_pos q, wi64_in (n := (lo + hi) / 2 + 1) (by omega) (by omega)]
        have := e2.1 q
        exact ih _ _ (by omega) (by omega) h2 h3 (by omega)
      · rw [if_neg q]
        have : ¬ (lo + hi) / 2 < c := fun g => q (e2.2 g)
        exact ih _ _ h0 h1 (by omega) (by omega) (by omega)
    · rw [impl_place_impl_Span_uint64_v2f107.l0, if_neg lt]; congr 1; omega
theorem add_loop (l out : List Span) (hl : l.length ≤ 1000) (xs : List Span) : ∀ (i a b : Int), 0 ≤ i → i ≤ l.length → l.drop i.toNat = xs →
    ∃ y, impl_add.l0 l out i a b = some y ∧ 0 ≤ y.1 ∧ y.1 ≤ l.length ∧ (⟨y.2.1, y.2.2⟩ : Span) :: l.drop y.1.toNat = mergeL a b xs := by
  induction xs with
  | nil =>
    intro i a b h0 h1 hd
    rw [impl_add.l0, if_neg (suf_nil h0 hd), some_bind, if_neg nft]
    exact ⟨_, rfl, h0, h1, by show _ :: l.drop i.toNat = _; rw [hd, mergeL]⟩
  | cons x t ih =>
    intro i a b h0 h1 hd
    obtain ⟨q1, q2, q3⟩ := suf_cons h0 hd z31
    rw [impl_add.l0, if_pos q1, if_pos ⟨h0, q1⟩, q2, some_bind]
    by_cases c : x.f0 ≤ b
    · rw [if_pos (decide_eq_true c), if_pos ⟨h0, q1⟩, wi64_in (n := i + 1) (by omega) (by omega), mergeL, if_pos c]
      exact ih (i + 1) _ _ (by omega) (by omega) q3
    · rw [if_neg (by simpa using c), mergeL, if_neg c]
      exact ⟨_, rfl, h0, h1, by show _ :: l.drop i.toNat = _; rw [hd]⟩
theorem plus_is (l : List Span) (a b : Int) (hl : l.length ≤ 1000) {m : Int} (hok : okF m l) : impl_add.f l a b = some (plusL a b l) := by
  unfold impl_add.f plusL
  by_cases z : a = b
  · rw [if_pos z, if_pos (by omega), if_pos z]
  · rw [if_neg z, if_neg z]
    have hfa := fore_aft a l
    have hlen : (fore a l).length + (aft a l).length = l.length := by rw [← List.length_append, hfa]
    have pl : impl_place_impl_Span_uint64_v2f107.f l a = some ((fore a l).length : Int) := by
      unfold impl_place_impl_Span_uint64_v2f107.f
      rw [place_loop l a (fore a l).length (by omega) (fun i h0 hi => ?_) l.length 0 _ (by omega) (by omega) (by omega) (by omega) (by omega)]
      · rfl
      · by_cases c : i.toNat < (fore a l).length
        · have hm : rd z31 l i ∈ fore a l := by
            rw [← rd_get z31 l i (by omega)]
            have : l[i.toNat]'(by omega) = (fore a l)[i.toNat]'c := by
              conv => lhs; rw [show l[i.toNat]'(by omega) = (fore a l ++ aft a l)[i.toNat]'(by rw [List.length_append]; omega) by simp only [hfa]]
              rw [List.getElem_append_left c]
            rw [this]; exact List.getElem_mem c
          have := fore_lt a l _ hm
          omega
        · have hm : rd z31 l i ∈ aft a l := by
            rw [← rd_get z31 l i (by omega)]
            have : l[i.toNat]'(by omega) = (aft a l)[i.toNat - (fore a l).length]'(by omega) := by
              conv => lhs; rw [show l[i.toNat]'(by omega) = (fore a l ++ aft a l)[i.toNat]'(by rw [List.length_append]; omega) by simp only [hfa]]
              rw [List.getElem_append_right (by omega)]
            rw [this]; exact List.getElem_mem _
          have := aft_ge a l hok _ hm
          omega
    rw [pl, some_bind, if_pos (by omega), if_pos (by omega), Int.toNat_natCast]
    have ht : List.take (fore a l).length (fore a l ++ aft a l) = fore a l := List.take_left
    have hd : List.drop (fore a l).length (fore a l ++ aft a l) = aft a l := List.drop_left
    rw [hfa] at ht hd
    rw [ht]
    obtain ⟨y, y1, y2, y3, y4⟩ := add_loop l (fore a l) hl (aft a l) ((fore a l).length : Int) a b (by omega) (by omega) (by rw [Int.toNat_natCast]; exact hd)
    rw [y1, some_bind, if_pos (by omega), if_pos ⟨y2, y3⟩, if_pos (by omega), ← y4, List.append_assoc, List.singleton_append]
theorem add_is (l : List Span) (a b : Int) (hx : ∀ x ∈ l, 0 ≤ x.f0) (hs : setok l = true) (hab : a ≤ b) : impl_SpanAdd.f l a b = some (lim (plusL a b l)) := by
  unfold impl_SpanAdd.f
  obtain ⟨h1, h2⟩ := setok_of hs
  rw [valid_good l a b hx hs hab, some_bind, if_neg (by decide), plus_is l a b h1 h2, some_bind]
  exact lim_step _
theorem add_bad (l : List Span) (a b : Int) (hx : ∀ x ∈ l, 0 ≤ x.f0) (h : ¬ (setok l = true ∧ a ≤ b)) : impl_SpanAdd.f l a b = some ([], 1) := by
  unfold impl_SpanAdd.f
  rw [valid_bad l a b hx h]; rfl
-- the law's own
theorem lspans_loop (l : List Span) (hl : l.length ≤ 1000000) (xs : List Span) : ∀ i : Int, 0 ≤ i → l.drop i.toNat = xs → laws_lSpans.l0 l l i = some (.a ()) := by
  induction xs with
  | nil => intro i h0 hd; rw [laws_lSpans.l0, if_neg (suf_nil h0 hd)]
  | cons x t ih =>
    intro i h0 hd
    obtain ⟨q1, q2, q3⟩ := suf_cons h0 hd z31
    rw [laws_lSpans.l0, if_pos q1, if_pos ⟨h0, q1⟩, if_pos ⟨h0, q1⟩, if_neg (by simp), wi64_in (n := i + 1) (by omega) (by omega)]
    exact ih (i + 1) (by omega) q3
theorem lspans_is (l : List Span) (hl : l.length ≤ 1000000) : laws_lSpans.f l l = some true := by
  unfold laws_lSpans.f
  rw [if_neg (by simp), lspans_loop l hl l 0 (by omega) rfl]; rfl
end Go.AK
