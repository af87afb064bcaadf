/- The choice of paths, both sides. Conditions: bounds. -/
import Derived.Test.YtakeenidhkhmiaaPureFnPlan0
set_option linter.unusedSimpArgs false
set_option linter.unusedVariables false
namespace Go.AK
open Go
theorem rdV_mid (pre xs : List V) (x : V) : rd z86 (pre ++ x :: xs) (pre.length : Int) = x := rd_app rfl
def elig (m p : Int) (v : V) : Bool := decide (v.f0 = 1) && (decide (0 < v.f2) && !bitAt m p)
def el (m : Int) : Int → List V → List Int
  | _, [] => []
  | p, x :: t => if elig m p x = true then p :: el m (p + 1) t else el m (p + 1) t
def ch (m : Int) (r : Int → V → Int) : List Int → Int → Int → List V → List Int
  | c, _, _, [] => c
  | c, w, p, x :: t => if elig m p x = true then (if c = [] ∨ r p x < w then ch m r [p] (r p x) (p + 1) t else if r p x = w then ch m r (c ++ [p]) w (p + 1) t else ch m r c w (p + 1) t) else ch m r c w (p + 1) t
def nextTurn (num turn n : Int) (c : List Int) : Int := if num = 1 ∧ 0 < c.length then Int.tmod (IntKind.i64.wrap (rd 0 c 0 + 1)) n else turn
theorem el_cond (m i : Int) (x : V) (h0 : 0 ≤ m) (h1 : m ≤ 255) (i0 : 0 ≤ i) (i8 : i ≤ 8) : (if x.f0 = 1 then (if x.f2 > 0 then (spec_l6Bit.f m i >>= fun t30 => (some (!t30))) else (some false)) else (some false)) = some (elig m i x) := by
  rw [bit_is m i h0 h1 i0 i8, some_bind]
  unfold elig
  by_cases a : x.f0 = 1
  · by_cases b : x.f2 > 0
    · rw [if_pos a, if_pos b, decide_eq_true a, decide_eq_true (show 0 < x.f2 from b)]; rfl
    · rw [if_pos a, if_neg b, decide_eq_true a, decide_eq_false (show ¬ 0 < x.f2 from b)]; rfl
  · rw [if_neg a, decide_eq_false a]; rfl
theorem spec_el (m : Int) (h0 : 0 ≤ m) (h1 : m ≤ 255) (l : List V) (hl : l.length ≤ 8) (xs : List V) : ∀ (i : Int) (out : List Int), 0 ≤ i → l.drop i.toNat = xs → (out.length : Int) ≤ i →
    spec_l6Eligible.l0 l m i out = some (out ++ el m i xs) := by
  induction xs with
  | nil => intro i out i0 hd ho; rw [spec_l6Eligible.l0, if_neg (suf_nil i0 hd)]; simp [el]
  | cons x t ih =>
    intro i out i0 hd ho
    obtain ⟨q1, q2, q3⟩ := suf_cons i0 hd z86
    have hi : 0 ≤ i ∧ i < (l.length : Int) := ⟨i0, q1⟩
    rw [spec_l6Eligible.l0, if_pos q1, if_pos hi, q2, el_cond m i x h0 h1 i0 (by omega), some_bind, wi64_in (n := i + 1) (by omega) (by omega), el]
    cases e : elig m i x with
    | true =>
      rw [if_pos rfl, if_pos (by omega), some_bind, ih (i + 1) _ (by omega) q3 (by simp only [List.length_append, List.length_singleton]; omega), if_pos rfl]; simp
    | false => rw [if_neg nft, some_bind, ih (i + 1) _ (by omega) q3 (by omega), if_neg nft]
theorem elig_is (m : Int) (h0 : 0 ≤ m) (h1 : m ≤ 255) (l : List V) (hl : l.length ≤ 8) : spec_l6Eligible.f l m = some (el m 0 l) := by
  unfold spec_l6Eligible.f
  rw [spec_el m h0 h1 l hl l 0 [] (by omega) rfl (by simp)]; rfl
theorem bar_cond (m i : Int) (x : V) (ok : okP x) (h0 : 0 ≤ m) (h1 : m ≤ 255) (i0 : 0 ≤ i) (i8 : i ≤ 8) : (if x.f0 ≠ 1 then (some true) else (if x.f2 = 0 then (some true) else (if ¬ i < 0 then (some (decide (bits .and .i64 (m.fdiv (2 ^ (min i.toNat 64))) 1 = 1))) else none))) = some (!elig m i x) := by
  rw [implBit m i h0 h1 i0 i8, if_pos (show ¬ i < 0 by omega)]
  unfold elig
  by_cases a : x.f0 = 1
  · rw [if_neg (fun h => h a), decide_eq_true a]
    by_cases b : x.f2 = 0
    · rw [if_pos b, decide_eq_false (show ¬ 0 < x.f2 by omega)]; rfl
    · have := ok.2.2.2.1
      rw [if_neg b, decide_eq_true (show 0 < x.f2 by omega)]
      cases bitAt m i <;> rfl
  · rw [if_pos a, decide_eq_false a]; rfl
theorem ch_loop (num turn pick m tag : Int) (nm : ByteArray) (r : Int → V → Int) (h0 : 0 ≤ m) (h1 : m ≤ 255) (l : List V) (hl : l.length ≤ 8) (hr : ∀ p x, dyn_113_114_115_116 tag p x.f0 x.f1 x.f2 (l.length : Int) turn pick = some (r p x)) (ok : ∀ x ∈ l, okP x) (xs : List V) : ∀ (i w : Int) (c : List Int), 0 ≤ i → l.drop i.toNat = xs → (c.length : Int) ≤ i →
    impl_choose.l0 l num turn pick m (l.length : Int) (l.length : Int) nm tag w i c = some (ch m r c w i xs) := by
  induction xs with
  | nil => intro i w c i0 hd hc; rw [impl_choose.l0, if_neg (suf_nil i0 hd), ch]
  | cons x t ih =>
    intro i w c i0 hd hc
    obtain ⟨q1, q2, q3⟩ := suf_cons i0 hd z86
    have hi : 0 ≤ i ∧ i < (l.length : Int) := ⟨i0, q1⟩
    have hx : okP x := ok x (by rw [← q2]; exact rd_mem i0 q1)
    have hd' := hr i x
    rw [impl_choose.l0, if_pos q1, if_pos hi, q2, bar_cond m i x hx h0 h1 i0 (by omega), some_bind, wi64_in (n := i + 1) (by omega) (by omega), ch]
    cases e : elig m i x with
    | false => rw [if_pos (by decide), some_bind, if_neg nft]; exact ih (i + 1) w c (by omega) q3 (by omega)
    | true =>
      rw [if_neg (by decide), hd', some_bind, if_pos rfl]
      by_cases z : c = []
      · rw [if_pos (by rw [z]; rfl), some_bind, if_pos rfl, some_bind, if_pos (.inl z)]
        exact ih (i + 1) _ _ (by omega) q3 (by simp only [List.length_singleton]; omega)
      · have hz : ¬ (c.length : Int) = 0 := fun h => z (List.length_eq_zero_iff.1 (by omega))
        rw [if_neg hz, some_bind]
        by_cases lt : r i x < w
        · rw [if_pos (decide_eq_true lt), some_bind, if_pos (.inr lt)]
          exact ih (i + 1) _ _ (by omega) q3 (by simp only [List.length_singleton]; omega)
        · have hnl : ¬ (c = [] ∨ r i x < w) := fun h => h.elim z lt
          have hdl : ¬ (decide (r i x < w) = true) := by simpa using lt
          have hb : (c.length + 1) * 8 ≤ 140737488355328 := by omega
          rw [if_neg hdl, if_neg hnl]
          by_cases eq : r i x = w
          · rw [if_pos eq, if_pos hb, some_bind, if_pos eq]
            exact ih (i + 1) _ _ (by omega) q3 (by simp only [List.length_append, List.length_singleton]; omega)
          · rw [if_neg eq, some_bind, if_neg eq]
            exact ih (i + 1) w c (by omega) q3 (by omega)
theorem choose_is (num turn pick m tag : Int) (nm : ByteArray) (r : Int → V → Int) (h0 : 0 ≤ m) (h1 : m ≤ 255) (l : List V) (hl : l.length ≤ 8) (hl0 : 0 < l.length) (hr : ∀ p x, dyn_113_114_115_116 tag p x.f0 x.f1 x.f2 (l.length : Int) turn pick = some (r p x)) (ok : ∀ x ∈ l, okP x) :
    impl_choose.f nm tag num turn pick l m = some (ch m r [] 0 0 l, nextTurn num turn l.length (ch m r [] 0 0 l)) := by
  unfold impl_choose.f
  rw [ch_loop num turn pick m tag nm r h0 h1 l hl hr ok l 0 0 [] (by omega) rfl (by simp), some_bind]
  generalize ch m r [] 0 0 l = c
  unfold nextTurn
  by_cases n1 : num = 1
  · rw [if_pos n1, some_bind]
    by_cases c0 : 0 < c.length
    · have g0 : decide ((c.length : Int) > 0) = true := decide_eq_true (by omega)
      have g1 : (0 : Int) ≤ 0 ∧ 0 < (c.length : Int) := by omega
      have g2 : ¬ (l.length : Int) = 0 := by omega
      rw [if_pos g0, if_pos g1, if_pos g2, some_bind, if_pos ⟨n1, c0⟩]
    · have g0 : ¬ decide ((c.length : Int) > 0) = true := by rw [decide_eq_true_iff]; omega
      rw [if_neg g0, some_bind, if_neg (fun g => c0 g.2)]
  · rw [if_neg n1, some_bind, if_neg nft, some_bind, if_neg (fun g => n1 g.1)]
def chI (r : Int → Int) : List Int → Int → List Int → List Int
  | c, _, [] => c
  | c, w, p :: t => if c = [] ∨ r p < w then chI r [p] (r p) t else if r p = w then chI r (c ++ [p]) w t else chI r c w t
theorem ch_el (m : Int) (r : Int → V → Int) (xs : List V) : ∀ (pre : List V) (c : List Int) (w : Int),
    ch m r c w (pre.length : Int) xs = chI (fun q => r q (rd z86 (pre ++ xs) q)) c w (el m (pre.length : Int) xs) := by
  induction xs with
  | nil => intro pre c w; simp [ch, el, chI]
  | cons x t ih =>
    intro pre c w
    have h := fun c w => ih (pre ++ [x]) c w
    simp only [List.length_append, List.length_cons, List.length_nil, List.append_assoc, List.singleton_append] at h
    simp only [ch, el]
    by_cases e : elig m (pre.length : Int) x = true
    · simp only [if_pos e, chI, rdV_mid]
      split
      · simpa using h _ _
      · split
        · simpa using h _ _
        · simpa using h _ _
    · simp only [if_neg e]; simpa using h c w
def bestF (s : Int → Int) : Int → List Int → Int
  | b, [] => b
  | b, p :: t => if s p < s b then bestF s p t else bestF s b t
theorem chI_best (s r : Int → Int) (ys : List Int) : ∀ b : Int, (b :: ys).Pairwise (· < ·) → (∀ p ∈ b :: ys, ∀ q ∈ b :: ys, (s p < s q ↔ r p < r q)) → (∀ p ∈ b :: ys, ∀ q ∈ b :: ys, r p = r q → p = q) →
    chI r [b] (r b) ys = [bestF s b ys] := by
  induction ys with
  | nil => intro b _ _ _; rfl
  | cons p t ih =>
    intro b hp ho hi
    have hbp : b < p := (List.pairwise_cons.1 hp).1 p (by simp)
    have pt : (p :: t).Pairwise (· < ·) := (List.pairwise_cons.1 hp).2
    have bt : (b :: t).Pairwise (· < ·) := List.pairwise_cons.2 ⟨fun z hz => (List.pairwise_cons.1 hp).1 z (by simp [hz]), (List.pairwise_cons.1 pt).2⟩
    have in1 : ∀ z ∈ p :: t, z ∈ b :: p :: t := fun z hz => List.mem_cons_of_mem _ hz
    have in2 : ∀ z ∈ b :: t, z ∈ b :: p :: t := fun z hz => by
      rcases List.mem_cons.1 hz with rfl | hz
      · simp
      · simp [hz]
    simp only [chI, bestF]
    by_cases c : s p < s b
    · have c' := (ho p (by simp) b (by simp)).1 c
      rw [if_pos (.inr c'), if_pos c]
      exact ih p pt (fun x hx y hy => ho x (in1 x hx) y (in1 y hy)) (fun x hx y hy => hi x (in1 x hx) y (in1 y hy))
    · have c' : ¬ r p < r b := fun g => c ((ho p (by simp) b (by simp)).2 g)
      have ne : ¬ r p = r b := fun g => by have := hi p (by simp) b (by simp) g; omega
      rw [if_neg (by simp [c']), if_neg ne, if_neg c]
      exact ih b bt (fun x hx y hy => ho x (in2 x hx) y (in2 y hy)) (fun x hx y hy => hi x (in2 x hx) y (in2 y hy))
theorem chI_zero (ys : List Int) : ∀ c : List Int, chI (fun _ => 0) c 0 ys = c ++ ys := by
  induction ys with
  | nil => intro c; simp [chI]
  | cons p t ih =>
    intro c
    simp only [chI]
    by_cases z : c = []
    · subst z; rw [if_pos (.inl rfl), ih]; rfl
    · rw [if_neg (by simp [z]), if_pos trivial, ih]; simp
theorem el_range (m : Int) (xs : List V) : ∀ i : Int, (∀ p ∈ el m i xs, i ≤ p ∧ p < i + xs.length) ∧ (el m i xs).Pairwise (· < ·) := by
  induction xs with
  | nil => intro i; simp [el]
  | cons x t ih =>
    intro i
    obtain ⟨h1, h2⟩ := ih (i + 1)
    simp only [el]
    split
    · refine ⟨fun p hp => ?_, List.pairwise_cons.2 ⟨fun p hp => by have := h1 p hp; omega, h2⟩⟩
      rcases List.mem_cons.1 hp with rfl | hp
      · simp only [List.length_cons]; omega
      · have := h1 p hp; simp only [List.length_cons]; omega
    · exact ⟨fun p hp => by have := h1 p hp; simp only [List.length_cons]; omega, h2⟩

theorem round_same (turn N p : Int) (ht : 0 ≤ turn) (ht' : turn < N) (hN : N ≤ 8) (h0 : 0 ≤ p) (h1 : p < N) : Int.tmod (IntKind.i64.wrap ((IntKind.i64.wrap (p - turn)) + N)) N = (p - turn + N) % N := by
  rw [wi64_in (n := p - turn) (by omega) (by omega), wi64_in (by omega) (by omega), Int.tmod_eq_emod_of_nonneg (by omega)]
theorem round_inj (turn N p q : Int) (ht : 0 ≤ turn) (ht' : turn < N) (hN : N ≤ 8) (h0 : 0 ≤ p) (h1 : p < N) (g0 : 0 ≤ q) (g1 : q < N) (h : (p - turn + N) % N = (q - turn + N) % N) : p = q := by
  have : N = 1 ∨ N = 2 ∨ N = 3 ∨ N = 4 ∨ N = 5 ∨ N = 6 ∨ N = 7 ∨ N = 8 := by omega
  rcases this with rfl | rfl | rfl | rfl | rfl | rfl | rfl | rfl <;> omega
theorem back_same (N a b p q : Int) (hN0 : 0 < N) (hN : N ≤ 8) (h0 : 0 ≤ p) (h1 : p < N) (g0 : 0 ≤ q) (g1 : q < N) : (a * N + p < b * N + q ↔ a * 8 + p < b * 8 + q) := by
  have : N = 1 ∨ N = 2 ∨ N = 3 ∨ N = 4 ∨ N = 5 ∨ N = 6 ∨ N = 7 ∨ N = 8 := by omega
  rcases this with rfl | rfl | rfl | rfl | rfl | rfl | rfl | rfl <;> omega

theorem el_len (m : Int) (xs : List V) : ∀ i : Int, (el m i xs).length ≤ xs.length := by
  induction xs with
  | nil => intro i; simp [el]
  | cons x t ih => intro i; have := ih (i + 1); simp only [el]; split <;> simp only [List.length_cons] <;> omega
theorem chI_len (r : Int → Int) (ys : List Int) : ∀ (c : List Int) (w : Int), (chI r c w ys).length ≤ c.length + ys.length := by
  induction ys with
  | nil => intro c w; simp [chI]
  | cons p t ih =>
    intro c w
    simp only [chI, List.length_cons]
    split
    · have := ih [p] (r p); simp only [List.length_cons, List.length_nil] at this; omega
    · split
      · have := ih (c ++ [p]) w; simp only [List.length_append, List.length_cons, List.length_nil] at this; omega
      · have := ih c w; omega
theorem spec_best (pol turn pick : Int) (l : List V) (s : Int → Int) (all : List Int) (h8 : all.length ≤ 8) (hs : ∀ p ∈ all, spec_l6Rank.f pol turn pick l p = some (s p)) (ys : List Int) : ∀ (i b : Int), 0 ≤ i → all.drop i.toNat = ys → b ∈ all →
    spec_l6Pick.l0 l pol turn pick all b i = some (bestF s b ys) := by
  induction ys with
  | nil => intro i b i0 hd hb; rw [spec_l6Pick.l0, if_neg (suf_nil i0 hd)]; rfl
  | cons p t ih =>
    intro i b i0 hd hb
    obtain ⟨q1, q2, q3⟩ := suf_cons i0 hd 0
    have hi : 0 ≤ i ∧ i < (all.length : Int) := ⟨i0, q1⟩
    have hp : p ∈ all := by rw [← q2]; exact rd_mem i0 q1
    rw [spec_l6Pick.l0, if_pos q1, if_pos hi, q2, hs p hp, some_bind, hs b hb, some_bind, wi64_in (n := i + 1) (by omega) (by omega), bestF]
    by_cases c : s p < s b
    · rw [if_pos c, some_bind, if_pos c]; exact ih (i + 1) p (by omega) q3 hp
    · rw [if_neg c, some_bind, if_neg c]; exact ih (i + 1) b (by omega) q3 hb
theorem agree (pol turn pick m : Int) (l : List V) (h0 : 0 ≤ m) (h1 : m ≤ 255) (hl : 0 < l.length) (h8 : l.length ≤ 8) (h3 : pol ≠ 3) (s r : Int → Int) (hs : ∀ p, 0 ≤ p → p < (l.length : Int) → spec_l6Rank.f pol turn pick l p = some (s p))
    (ho : ∀ p q, 0 ≤ p → p < (l.length : Int) → 0 ≤ q → q < (l.length : Int) → (s p < s q ↔ r p < r q)) (hi : ∀ p q, 0 ≤ p → p < (l.length : Int) → 0 ≤ q → q < (l.length : Int) → r p = r q → p = q) :
    spec_l6Pick.f pol turn pick l m = some (chI r [] 0 (el m 0 l), nextTurn pol turn (l.length : Int) (chI r [] 0 (el m 0 l))) := by
  obtain ⟨rg, pw⟩ := el_range m l 0
  have len := el_len m l 0
  unfold spec_l6Pick.f
  rw [elig_is m h0 h1 l h8, some_bind, if_neg h3, some_bind]
  cases hL : el m 0 l with
  | nil => rw [if_pos (by decide)]; simp [chI, nextTurn]
  | cons b ys =>
    rw [hL] at rg pw len
    simp only [List.length_cons] at len
    have hn : ¬ (((b :: ys).length : Int) = 0) := by simp only [List.length_cons]; omega
    have e : chI r [] 0 (b :: ys) = [bestF s b ys] := by
      simp only [chI]
      rw [if_pos (.inl trivial)]
      exact chI_best s r ys b pw (fun p hp q hq => ho p q (rg p hp).1 (by have := (rg p hp).2; omega) (rg q hq).1 (by have := (rg q hq).2; omega)) (fun p hp q hq => hi p q (rg p hp).1 (by have := (rg p hp).2; omega) (rg q hq).1 (by have := (rg q hq).2; omega))
    have b0 : rd 0 (b :: ys) 0 = b := rfl
    have bb : bestF s b (b :: ys) = bestF s b ys := by simp [bestF]
    have sb := spec_best pol turn pick l s (b :: ys) (by simp only [List.length_cons]; omega) (fun p hp => hs p (rg p hp).1 (by have := (rg p hp).2; omega)) (b :: ys) 0 b (by omega) rfl (by simp)
    rw [bb] at sb
    rw [e, if_neg (by simpa using hn), if_pos (by simp only [List.length_cons]; omega), b0, sb, some_bind]
    unfold nextTurn
    by_cases n1 : pol = 1
    · rw [if_pos n1, if_pos (by omega), some_bind, if_pos ⟨n1, by simp⟩]; rfl
    · rw [if_neg n1, some_bind, if_neg (fun g => n1 g.1)]
theorem chI_nil (r : Int → Int) (ys : List Int) : ∀ (c : List Int) (w : Int), c ≠ [] → chI r c w ys ≠ [] := by
  induction ys with
  | nil => intro c w h; exact h
  | cons p t ih =>
    intro c w h
    simp only [chI]
    split
    · exact ih _ _ (by simp)
    · split
      · exact ih _ _ (by simp)
      · exact ih _ _ h
theorem chI_empty (r : Int → Int) (ys : List Int) : chI r [] 0 ys = [] ↔ ys = [] := by
  cases ys with
  | nil => simp [chI]
  | cons p t =>
    simp only [chI]
    rw [if_pos (.inl trivial)]
    exact ⟨fun h => absurd h (chI_nil r t _ _ (by simp)), fun h => by cases h⟩
theorem chI_sub (r : Int → Int) (ys : List Int) : ∀ (c : List Int) (w : Int) (p : Int), p ∈ chI r c w ys → p ∈ c ∨ p ∈ ys := by
  induction ys with
  | nil => intro c w p h; exact .inl h
  | cons q t ih =>
    intro c w p h
    simp only [chI] at h
    split at h
    · rcases ih _ _ _ h with h | h
      · rw [List.mem_singleton] at h; exact .inr (by rw [h]; exact List.mem_cons_self)
      · exact .inr (List.mem_cons_of_mem _ h)
    · split at h
      · rcases ih _ _ _ h with h | h
        · rcases List.mem_append.1 h with h | h
          · exact .inl h
          · rw [List.mem_singleton] at h; exact .inr (by rw [h]; exact List.mem_cons_self)
        · exact .inr (List.mem_cons_of_mem _ h)
      · rcases ih _ _ _ h with h | h
        · exact .inl h
        · exact .inr (List.mem_cons_of_mem _ h)
theorem chI_sub0 (r : Int → Int) (ys : List Int) (p : Int) (h : p ∈ chI r [] 0 ys) : p ∈ ys := (chI_sub r ys [] 0 p h).resolve_left (by simp)
/-- What the reference picks: one path, but for the policy of all. -/
theorem pick_one (pol turn pick m : Int) (l : List V) (R : List Int × Int) (h0 : 0 ≤ m) (h1 : m ≤ 255) (h8 : l.length ≤ 8) (h : spec_l6Pick.f pol turn pick l m = some R) (ne : R.1 ≠ []) : (pol ≠ 3 → R.1.length = 1) ∧ (pol = 3 → R.1 = el m 0 l) := by
  unfold spec_l6Pick.f at h
  rw [elig_is m h0 h1 l h8, some_bind] at h
  by_cases p : pol = 3
  · rw [if_pos p, some_bind, if_pos rfl] at h
    cases h
    exact ⟨fun q => absurd p q, fun _ => rfl⟩
  · rw [if_neg p, some_bind] at h
    refine ⟨fun _ => ?_, fun q => absurd q p⟩
    by_cases z : ((el m 0 l).length : Int) = 0
    · rw [if_pos (decide_eq_true z)] at h
      cases h
      exact absurd (List.length_eq_zero_iff.1 (by show (el m 0 l).length = 0; omega)) ne
    · rw [if_neg (by simpa using z)] at h
      split at h
      · obtain ⟨y, _, h⟩ := of_bind h
        obtain ⟨j, _, h⟩ := of_bind h
        cases h; rfl
      · cases h
/-- Both choose alike. -/
theorem choose_both (pol turn pick m : Int) (l : List V) (nm : ByteArray) (hp : 1 ≤ pol ∧ pol ≤ 4) (ht : 0 ≤ turn ∧ turn < (l.length : Int)) (h0 : 0 ≤ m) (h1 : m ≤ 255) (h8 : l.length ≤ 8) (ok : ∀ x ∈ l, okP x) :
    ∃ R : List Int × Int, R.1.length ≤ 8 ∧ (∀ p ∈ R.1, p ∈ el m 0 l) ∧ (R.1 = [] ↔ el m 0 l = []) ∧ spec_l6Pick.f pol turn pick l m = some R ∧ impl_choose.f nm (112 + pol) pol turn pick l m = some R := by
  have hl : 0 < l.length := by omega
  have ln : ∀ r : Int → Int, (chI r [] 0 (el m 0 l)).length ≤ 8 := fun r => by have a := chI_len r (el m 0 l) [] 0; have b := el_len m l 0; simp only [List.length_nil] at a; omega
  have hce : ∀ r : Int → V → Int, ch m r [] 0 0 l = chI (fun q => r q (rd z86 l q)) [] 0 (el m 0 l) := fun r => by simpa using ch_el m r l [] [] 0
  have hpol : pol = 1 ∨ pol = 2 ∨ pol = 3 ∨ pol = 4 := by omega
  rcases hpol with rfl | rfl | rfl | rfl
  · let r : Int → Int := fun p => Int.tmod (IntKind.i64.wrap ((IntKind.i64.wrap (p - turn)) + (l.length : Int))) (l.length : Int)
    refine ⟨_, ln r, chI_sub0 r _, chI_empty r _, agree 1 turn pick m l h0 h1 hl h8 (by decide) r r (fun p _ _ => ?_) (fun _ _ _ _ _ _ => Iff.rfl) (fun p q a b c d e => ?_), ?_⟩
    · unfold spec_l6Rank.f; rw [if_pos rfl, if_pos (by omega)]
    · simp only [r] at e
      rw [round_same turn _ p ht.1 ht.2 (by omega) a b, round_same turn _ q ht.1 ht.2 (by omega) c d] at e
      exact round_inj turn _ p q ht.1 ht.2 (by omega) a b c d e
    · rw [choose_is 1 turn pick m (112 + 1) nm (fun p _ => r p) h0 h1 l h8 hl (fun p x => by unfold dyn_113_114_115_116 impl_policyOf_1.f; rw [if_pos (by decide), if_pos (by omega)]) ok, hce]
  · let r : Int → V → Int := fun p x => IntKind.i64.wrap ((IntKind.i64.wrap (x.f1 * 8)) + p)
    let s : Int → Int := fun p => IntKind.i64.wrap ((IntKind.i64.wrap ((rd z86 l p).f1 * (l.length : Int))) + p)
    have rw8 : ∀ p, 0 ≤ p → p < (l.length : Int) → r p (rd z86 l p) = (rd z86 l p).f1 * 8 + p := by
      intro p a b
      have o := ok _ (rd_mem (z := z86) a b)
      unfold okP at o
      simp only [r]
      rw [wi64_in (n := (rd z86 l p).f1 * 8) (by omega) (by omega), wi64_in (by omega) (by omega)]
    have rws : ∀ p, 0 ≤ p → p < (l.length : Int) → s p = (rd z86 l p).f1 * (l.length : Int) + p := by
      intro p a b
      have o := ok _ (rd_mem (z := z86) a b)
      unfold okP at o
      have u : (rd z86 l p).f1 * (l.length : Int) ≤ 16 * 8 := Int.mul_le_mul (by omega) (by omega) (by omega) (by omega)
      have v : 0 ≤ (rd z86 l p).f1 * (l.length : Int) := Int.mul_nonneg (by omega) (by omega)
      simp only [s]
      rw [wi64_in (n := (rd z86 l p).f1 * (l.length : Int)) (by omega) (by omega), wi64_in (by omega) (by omega)]
    refine ⟨_, ln (fun q => r q (rd z86 l q)), chI_sub0 _ _, chI_empty _ _, agree 2 turn pick m l h0 h1 hl h8 (by decide) s (fun q => r q (rd z86 l q)) (fun p a b => ?_) (fun p q a b c d => ?_) (fun p q a b c d e => ?_), ?_⟩
    · unfold spec_l6Rank.f; rw [if_neg (by decide), if_pos rfl, if_pos ⟨a, b⟩]
    · rw [rws p a b, rws q c d, rw8 p a b, rw8 q c d]
      exact back_same _ _ _ _ _ (by omega) (by omega) a b c d
    · rw [rw8 p a b, rw8 q c d] at e; omega
    · rw [choose_is 2 turn pick m (112 + 2) nm r h0 h1 l h8 hl (fun p x => by unfold dyn_113_114_115_116 impl_policyOf_2.f; rw [if_neg (by decide), if_pos (by decide)]) ok, hce]
  · refine ⟨(el m 0 l, turn), by have := el_len m l 0; show (el m 0 l).length ≤ 8; omega, fun _ h => h, Iff.rfl, ?_, ?_⟩
    · unfold spec_l6Pick.f
      rw [elig_is m h0 h1 l h8, some_bind, if_pos rfl, some_bind, if_pos rfl]
    · rw [choose_is 3 turn pick m (112 + 3) nm (fun _ _ => 0) h0 h1 l h8 hl (fun p x => by unfold dyn_113_114_115_116 impl_policyOf_3.f; rw [if_neg (by decide), if_neg (by decide), if_pos (by decide)]) ok, hce, chI_zero]
      unfold nextTurn; rw [if_neg (fun g => absurd g.1 (by decide))]; rfl
  · let r : Int → Int := fun p => if p = pick then -1 else p
    refine ⟨_, ln r, chI_sub0 r _, chI_empty r _, agree 4 turn pick m l h0 h1 hl h8 (by decide) r r (fun p _ _ => ?_) (fun _ _ _ _ _ _ => Iff.rfl) (fun p q a b c d e => ?_), ?_⟩
    · unfold spec_l6Rank.f; rw [if_neg (by decide), if_neg (by decide)]; simp only [r]; split <;> rfl
    · simp only [r] at e; split at e <;> split at e <;> omega
    · rw [choose_is 4 turn pick m (112 + 4) nm (fun p _ => r p) h0 h1 l h8 hl (fun p x => by unfold dyn_113_114_115_116 impl_policyOf_4.f; rw [if_neg (by decide), if_neg (by decide), if_neg (by decide), if_pos (by decide)]; simp only [r]; split <;> rfl) ok, hce]
end Go.AK
