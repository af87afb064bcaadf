/- The reference's span functions: what they answer, told by the offsets. Conditions: bounds. -/
import Derived.Test.YtakeenidhkhmiaaPureFnSpans1
set_option linter.unusedSimpArgs false
set_option linter.unusedVariables false
namespace Go.AK
open Go
theorem rd_last {l pre xs : List Span} {i b : Int} (h : l = pre ++ xs) (hi : (pre.length : Int) = i) (hp : 0 < i) : (rd z31 l (i - 1)).f1 = top b pre := by
  obtain rfl | ⟨p, z, rfl⟩ := List.eq_nil_or_concat pre
  · simp at hi; omega
  · rw [List.concat_eq_append] at *
    rw [h, top_snoc, List.append_assoc, List.singleton_append, rd_app (by rw [List.length_append, List.length_singleton] at hi; omega)]
theorem cons_snoc {l pre t : List Span} {x : Span} (h : l = pre ++ x :: t) : l = (pre ++ [x]) ++ t := by rw [h]; simp
theorem app_len {l pre xs : List Span} (h : l = pre ++ xs) : l.length = pre.length + xs.length := by rw [h, List.length_append]
theorem setOK_loop (l : List Span) (hl : l.length ≤ 1000) (xs : List Span) : ∀ (pre : List Span) (i : Int), l = pre ++ xs → (pre.length : Int) = i → (∀ x ∈ xs, 0 ≤ x.f0) →
    spec_l2SetOK.l0 l i = some (if okF (top (-1) pre) xs then .a () else .b false) := by
  induction xs with
  | nil =>
    intro pre i h hi hx
    rw [spec_l2SetOK.l0, if_neg (by rw [h]; exact nlt_app hi), if_pos (by trivial)]
  | cons x t ih =>
    intro pre i h hi hx
    have hx0 := hx x (by simp)
    have hlt : 0 ≤ i ∧ i < (l.length : Int) := by rw [h]; exact lt_app hi
    have e : rd z31 l i = x := by rw [h]; exact rd_app hi
    have nx := ih (pre ++ [x]) (i + 1) (cons_snoc h) (len_snoc hi) (fun y hy => hx y (by simp [hy]))
    rw [top_snoc] at nx
    rw [spec_l2SetOK.l0, if_pos hlt.2, if_pos hlt, e, wi64_in (n := i + 1) (by omega) (by omega), nx]
    by_cases c : x.f0 ≥ x.f1
    · rw [if_pos c, some_bind, if_pos rfl, if_neg (fun h => by have := h.2.1; omega)]
    · rw [if_neg c]
      have go : top (-1) pre < x.f0 → (if okF x.f1 t then Lp.a () else Lp.b false) = (if okF (top (-1) pre) (x :: t) then Lp.a () else Lp.b false) := by
        intro h1
        by_cases k : okF x.f1 t
        · rw [if_pos k, if_pos ⟨h1, by omega, k⟩]
        · rw [if_neg k, if_neg (fun h => k h.2.2)]
      by_cases p : i > 0
      · rw [if_pos p, wi64_in (n := i - 1) (by omega) (by omega), if_pos (by omega), some_bind, rd_last (b := -1) h hi p]
        by_cases d : x.f0 ≤ top (-1) pre
        · rw [if_pos (decide_eq_true d), if_neg (fun h => by have := h.1; omega)]
        · rw [if_neg (by simpa using d), go (by omega)]
      · have hp : pre = [] := List.length_eq_zero_iff.1 (by omega)
        rw [if_neg p, some_bind, if_neg nft, go (by rw [hp]; simp only [top]; omega)]
def setok (l : List Span) : Bool := decide (l.length ≤ 1000 ∧ okF (-1) l)
theorem setok_of {l : List Span} (h : setok l = true) : l.length ≤ 1000 ∧ okF (-1) l := by unfold setok at h; exact of_decide_eq_true h
theorem setok_is {l : List Span} (h1 : l.length ≤ 1000) (h2 : okF (-1) l) : setok l = true := by unfold setok; exact decide_eq_true ⟨h1, h2⟩
theorem setOK_is (l : List Span) (hx : ∀ x ∈ l, 0 ≤ x.f0) : spec_l2SetOK.f l = some (setok l) := by
  unfold spec_l2SetOK.f setok
  by_cases c : (l.length : Int) > 1000
  · rw [if_pos c]; congr 1; rw [eq_comm, decide_eq_false_iff_not]; rintro ⟨h, _⟩; omega
  · rw [if_neg c, setOK_loop l (by omega) l [] 0 rfl rfl hx, some_bind]
    by_cases k : okF (top (-1) []) l
    · rw [if_pos k, decide_eq_true ⟨by omega, k⟩]
    · rw [if_neg k, decide_eq_false (fun h => k h.2)]

theorem specIn_loop (l : List Span) (q : Int) (hl : l.length ≤ 1000000) (xs : List Span) : ∀ i : Int, 0 ≤ i → l.drop i.toNat = xs →
    spec_l2In.l0 l q i = some (if In xs q then .b true else .a ()) := by
  induction xs with
  | nil => intro i h0 hd; rw [spec_l2In.l0, if_neg (suf_nil h0 hd), if_neg (In_nil q)]
  | cons x t ih =>
    intro i h0 hd
    obtain ⟨q1, q2, q3⟩ := suf_cons h0 hd z31
    rw [spec_l2In.l0, if_pos q1, if_pos ⟨h0, q1⟩, q2, wi64_in (n := i + 1) (by omega) (by omega), ih (i + 1) (by omega) q3]
    have go : ¬ (x.f0 ≤ q ∧ q < x.f1) → (if In t q then Lp.b true else Lp.a ()) = (if In (x :: t) q then Lp.b true else Lp.a ()) := by
      intro h
      by_cases k : In t q
      · rw [if_pos k, if_pos ((In_cons x t q).2 (.inr k))]
      · rw [if_neg k, if_neg (fun o => ((In_cons x t q).1 o).elim h k)]
    by_cases c : q ≥ x.f0
    · rw [if_pos c, some_bind]
      by_cases d : q < x.f1
      · rw [if_pos (decide_eq_true d), if_pos ((In_cons x t q).2 (.inl ⟨c, d⟩))]
      · rw [if_neg (by simpa using d), go (fun o => d o.2)]
    · rw [if_neg c, some_bind, if_neg nft, go (fun o => c o.1)]
theorem specIn_is (l : List Span) (q : Int) (hl : l.length ≤ 1000000) : spec_l2In.f l q = some (decide (In l q)) := by
  unfold spec_l2In.f
  rw [specIn_loop l q hl l 0 (by omega) rfl, some_bind]
  by_cases k : In l q
  · rw [if_pos k, decide_eq_true k]
  · rw [if_neg k, decide_eq_false k]

/-- Laid into a list without repetitions that rises. -/
def ins (a : Int) : List Int → List Int
  | [] => [a]
  | x :: t => if a ≤ x then (if a = x then x :: t else a :: x :: t) else x :: ins a t
theorem mem_ins (a y : Int) (l : List Int) : y ∈ ins a l ↔ y = a ∨ y ∈ l := by
  induction l with
  | nil => simp [ins]
  | cons x t ih =>
    simp only [ins]
    split
    · split
      · rename_i _ h; subst h; simp
      · simp
    · simp only [List.mem_cons, ih]; constructor
      · rintro (h | h | h)
        · exact .inr (.inl h)
        · exact .inl h
        · exact .inr (.inr h)
      · rintro (h | h | h)
        · exact .inr (.inl h)
        · exact .inl h
        · exact .inr (.inr h)
theorem ins_sorted (a : Int) (l : List Int) (h : l.Pairwise (· < ·)) : (ins a l).Pairwise (· < ·) := by
  induction l with
  | nil => simp [ins]
  | cons x t ih =>
    rw [List.pairwise_cons] at h
    simp only [ins]
    split
    · split
      · exact List.pairwise_cons.2 h
      · rename_i h1 h2
        refine List.pairwise_cons.2 ⟨fun y hy => ?_, List.pairwise_cons.2 h⟩
        rcases List.mem_cons.1 hy with rfl | hy
        · omega
        · have := h.1 y hy; omega
    · refine List.pairwise_cons.2 ⟨fun y hy => ?_, ih h.2⟩
      rcases (mem_ins a y t).1 hy with rfl | hy
      · omega
      · exact h.1 y hy
theorem ins_length (a : Int) (l : List Int) : (ins a l).length ≤ l.length + 1 := by
  induction l with
  | nil => simp [ins]
  | cons x t ih =>
    simp only [ins]
    split
    · split <;> simp
    · simp only [List.length_cons]; omega

/-- Whether a place for it comes. -/
def found (a : Int) : List Int → Bool
  | [] => false
  | x :: t => if a ≤ x then true else found a t
theorem ins_end (a : Int) (l : List Int) (h : found a l = false) : ins a l = l ++ [a] := by
  induction l with
  | nil => rfl
  | cons x t ih =>
    rw [found] at h
    split at h
    · cases h
    · rename_i c; rw [ins, if_neg c, ih h]; rfl
theorem points_done (i : Int) (all o : List Int) (ho : o.length ≤ 1000000) (xs : List Int) : ∀ (k : Int) (nx : List Int), 0 ≤ k → o.drop k.toNat = xs → (nx.length : Int) ≤ k + 1 →
    spec_l2Points.l2 i all o true k nx = some (true, nx ++ xs) := by
  induction xs with
  | nil => intro k nx h0 hd hn; rw [spec_l2Points.l2, if_neg (suf_nil h0 hd), List.append_nil]
  | cons x t ih =>
    intro k nx h0 hd hn
    obtain ⟨q1, q2, q3⟩ := suf_cons h0 hd 0
    rw [spec_l2Points.l2, if_pos q1, if_neg (by decide), some_bind, if_neg nft, some_bind, if_pos ⟨h0, q1⟩, if_pos (by show (nx.length + 1) * 8 ≤ _; omega), wi64_in (n := k + 1) (by omega) (by omega), q2]
    show spec_l2Points.l2 i all o true (k + 1) (nx ++ [x]) = _
    rw [ih (k + 1) (nx ++ [x]) (by omega) q3 (by rw [List.length_append, List.length_singleton]; omega)]
    simp
theorem points_in (i : Int) (all o : List Int) (hi : 0 ≤ i ∧ i < (all.length : Int)) (ho : o.length ≤ 1000000) (xs : List Int) : ∀ (k : Int) (nx : List Int), 0 ≤ k → o.drop k.toNat = xs → (nx.length : Int) ≤ k →
    spec_l2Points.l2 i all o false k nx = some (found (rd 0 all i) xs, nx ++ if found (rd 0 all i) xs = true then ins (rd 0 all i) xs else xs) := by
  induction xs with
  | nil => intro k nx h0 hd hn; rw [spec_l2Points.l2, if_neg (suf_nil h0 hd)]; simp [found]
  | cons x t ih =>
    intro k nx h0 hd hn
    obtain ⟨q1, q2, q3⟩ := suf_cons h0 hd 0
    rw [spec_l2Points.l2, if_pos q1, if_pos (by decide), if_pos hi, if_pos ⟨h0, q1⟩, some_bind, q2]
    by_cases c : rd 0 all i ≤ x
    · rw [if_pos (decide_eq_true c), if_pos hi, if_pos ⟨h0, q1⟩]
      have hf : found (rd 0 all i) (x :: t) = true := by rw [found, if_pos c]
      rw [hf, if_pos rfl]
      by_cases d : rd 0 all i = x
      · rw [if_neg (by simpa using d), some_bind, if_pos ⟨h0, q1⟩, if_pos (by show (nx.length + 1) * 8 ≤ _; omega), wi64_in (n := k + 1) (by omega) (by omega)]
        show spec_l2Points.l2 i all o true (k + 1) (nx ++ [x]) = _
        rw [points_done i all o ho t (k + 1) _ (by omega) q3 (by rw [List.length_append, List.length_singleton]; omega), ins, if_pos c, if_pos d]
        simp
      · rw [if_pos d, if_pos (by omega), some_bind, if_pos ⟨h0, q1⟩, if_pos (by show ((nx ++ [_]).length + 1) * 8 ≤ _; rw [List.length_append, List.length_singleton]; omega), wi64_in (n := k + 1) (by omega) (by omega)]
        show spec_l2Points.l2 i all o true (k + 1) ((nx ++ [rd 0 all i]) ++ [x]) = _
        rw [points_done i all o ho t (k + 1) _ (by omega) q3 (by simp only [List.length_append, List.length_singleton]; omega), ins, if_pos c, if_neg d]
        simp
    · rw [if_neg (by simpa using c), some_bind, if_pos ⟨h0, q1⟩, if_pos (by show (nx.length + 1) * 8 ≤ _; omega), wi64_in (n := k + 1) (by omega) (by omega)]
      show spec_l2Points.l2 i all o false (k + 1) (nx ++ [x]) = _
      rw [ih (k + 1) (nx ++ [x]) (by omega) q3 (by rw [List.length_append, List.length_singleton]; omega), found, if_neg c, ins, if_neg c]
      cases hf : found (rd 0 all i) t <;> simp

/-- All points, each once, rising. -/
def pts (all : List Int) (o : List Int) : List Int := all.foldl (fun o a => ins a o) o
theorem pts_sorted (all : List Int) : ∀ o : List Int, o.Pairwise (· < ·) → (pts all o).Pairwise (· < ·) := by
  induction all with
  | nil => exact fun o h => h
  | cons a t ih => exact fun o h => ih _ (ins_sorted a o h)
theorem mem_pts (all : List Int) (y : Int) : ∀ o : List Int, y ∈ pts all o ↔ y ∈ all ∨ y ∈ o := by
  induction all with
  | nil => intro o; simp [pts]
  | cons a t ih =>
    intro o
    show y ∈ pts t (ins a o) ↔ _
    rw [ih, mem_ins, List.mem_cons]
    constructor
    · rintro (h | h | h)
      · exact .inl (.inr h)
      · exact .inl (.inl h)
      · exact .inr h
    · rintro ((h | h) | h)
      · exact .inr (.inl h)
      · exact .inl h
      · exact .inr (.inr h)
theorem pts_length (all : List Int) : ∀ o : List Int, (pts all o).length ≤ all.length + o.length := by
  induction all with
  | nil => intro o; simp [pts]
  | cons a t ih =>
    intro o
    have h1 := ih (ins a o)
    have h2 := ins_length a o
    show (pts t (ins a o)).length ≤ _
    simp only [List.length_cons]; omega

theorem points_out (all : List Int) (hl : all.length ≤ 100000) (ys : List Int) : ∀ (i : Int) (o : List Int), 0 ≤ i → all.drop i.toNat = ys → (o.length : Int) ≤ i →
    spec_l2Points.l1 all i o = some (pts ys o) := by
  induction ys with
  | nil => intro i o h0 hd ho; rw [spec_l2Points.l1, if_neg (suf_nil h0 hd)]; rfl
  | cons y t ih =>
    intro i o h0 hd ho
    obtain ⟨q1, q2, q3⟩ := suf_cons h0 hd 0
    rw [spec_l2Points.l1, if_pos q1, points_in i all o ⟨h0, q1⟩ (by omega) o 0 [] (by omega) rfl (by simp), some_bind, q2, wi64_in (n := i + 1) (by omega) (by omega), List.nil_append]
    have hil := ins_length y o
    have nx := ih (i + 1) (ins y o) (by omega) q3 (by omega)
    cases hf : found y o with
    | true =>
      rw [if_neg (by show ¬ ((!true) = true); decide), some_bind, if_pos rfl, nx]; rfl
    | false =>
      rw [if_pos (by show (!false) = true; decide), if_pos ⟨h0, q1⟩, if_neg nft, if_pos (by show (o.length + 1) * 8 ≤ _; omega), some_bind]
      show spec_l2Points.l1 all (i + 1) (o ++ [y]) = _
      rw [← ins_end y o hf, nx]; rfl
def ends : List Span → List Int
  | [] => []
  | x :: t => x.f0 :: x.f1 :: ends t
theorem ends_length (l : List Span) : (ends l).length = 2 * l.length := by
  induction l with
  | nil => rfl
  | cons x t ih => simp only [ends, List.length_cons, ih]; omega
theorem mem_ends {l : List Span} {x : Span} (h : x ∈ l) : x.f0 ∈ ends l ∧ x.f1 ∈ ends l := by
  induction l with
  | nil => simp at h
  | cons y t ih =>
    rcases List.mem_cons.1 h with rfl | h
    · simp [ends]
    · have := ih h; simp [ends, this]
theorem points_all (l : List Span) (hl : l.length ≤ 1000) (xs : List Span) : ∀ (i : Int) (all : List Int), 0 ≤ i → l.drop i.toNat = xs → (all.length : Int) ≤ 2 * i + 2 →
    spec_l2Points.l0 l i all = some (all ++ ends xs) := by
  induction xs with
  | nil => intro i all h0 hd ha; rw [spec_l2Points.l0, if_neg (suf_nil h0 hd)]; simp [ends]
  | cons x t ih =>
    intro i all h0 hd ha
    obtain ⟨q1, q2, q3⟩ := suf_cons h0 hd z31
    rw [spec_l2Points.l0, if_pos q1, if_pos ⟨h0, q1⟩, if_pos (by omega), if_pos (by omega), wi64_in (n := i + 1) (by omega) (by omega), q2,
      ih (i + 1) _ (by omega) q3 (by simp only [List.length_append, List.length_singleton]; omega)]
    simp [ends]
def pointsOf (l : List Span) (s : Span) : List Int := pts ([s.f0, s.f1] ++ ends l) []
theorem points_is (l : List Span) (a b : Int) (hl : l.length ≤ 1000) : spec_l2Points.f l a b = some (pointsOf l ⟨a, b⟩) := by
  unfold spec_l2Points.f pointsOf
  have := ends_length l
  rw [points_all l hl l 0 [a, b] (by omega) rfl (by simp), some_bind, points_out _ (by simp [this]; omega) _ 0 [] (by omega) rfl (by simp)]
  rfl

/-- Which offsets pass. -/
def pass (κ : Int) (A B : Bool) : Bool := if κ = 1 then A || B else if κ = 2 then A && !B else if κ = 3 then B && !A else A && B
def passAt (κ : Int) (l : List Span) (s : Span) (q : Int) : Bool := pass κ (decide (In l q)) (decide (In [s] q))

theorem between {pre rest : List Int} {a b y : Int} (h : (pre ++ a :: b :: rest).Pairwise (· < ·)) (hy : y ∈ pre ++ a :: b :: rest) : y ≤ a ∨ b ≤ y := by
  rw [List.pairwise_append] at h
  obtain ⟨_, h2, h3⟩ := h
  rcases List.mem_append.1 hy with hy | hy
  · exact .inl (Int.le_of_lt (h3 y hy a (by simp)))
  · rw [List.pairwise_cons, List.pairwise_cons] at h2
    rcases List.mem_cons.1 hy with rfl | hy
    · exact .inl (Int.le_refl _)
    · rcases List.mem_cons.1 hy with rfl | hy
      · exact .inr (Int.le_refl _)
      · exact .inr (Int.le_of_lt (h2.2.1 y hy))
theorem same_stretch {l : List Span} {ps pre rest : List Int} {a b : Int} (hp : ps = pre ++ a :: b :: rest) (h : ps.Pairwise (· < ·)) (hm : ∀ x ∈ l, x.f0 ∈ ps ∧ x.f1 ∈ ps) {q : Int} (h1 : a ≤ q) (h2 : q < b) : In l q ↔ In l a := by
  subst hp
  constructor
  · rintro ⟨x, hx, g1, g2⟩
    obtain ⟨m0, m1⟩ := hm x hx
    have c0 := between h m0
    exact ⟨x, hx, by omega, by omega⟩
  · rintro ⟨x, hx, g1, g2⟩
    obtain ⟨m0, m1⟩ := hm x hx
    have c1 := between h m1
    exact ⟨x, hx, by omega, by omega⟩

theorem pass_is (κ : Int) (hκ : κ = 1 ∨ κ = 2 ∨ κ = 3 ∨ κ = 4) (A B : Bool) :
    (if κ = 1 then (if A = true then (some true) else (if B = true then (some true) else (some false))) else (if κ = 2 then (if A = true then (if (!B) = true then (some true) else (some false)) else (some false)) else (if κ = 3 then (if B = true then (if (!A) = true then (some true) else (some false)) else (some false)) else (if κ = 4 then (if A = true then (some B) else (some false)) else (some false))))) = some (pass κ A B) := by
  rcases hκ with rfl | rfl | rfl | rfl <;> cases A <;> cases B <;> rfl
theorem build_add (ps : List Int) (n : Nat) (i : Int) (out : List Span) (a b : Int) (hn : ps.length ≤ 100000) (h0 : 0 ≤ i) (h1 : i + 1 < (ps.length : Int)) (ra : rd 0 ps i = a) (rb : rd 0 ps (i + 1) = b) (ho : out.length ≤ n) (hnn : n ≤ 100000) (hok : okF (-1) out)
    (hta : top (-1) out ≤ a) (hab : a < b) (ha : -1 < a) :
    ∃ out', ((if (out.length : Int) > 0 then (if 0 ≤ IntKind.i64.wrap ((out.length : Int) - 1) ∧ IntKind.i64.wrap ((out.length : Int) - 1) < (out.length : Int) then (some (decide ((rd z31 out (IntKind.i64.wrap ((out.length : Int) - 1))).f1 = (rd 0 ps i)))) else none) else (some false)) >>= fun (j84 : Bool) => (if j84 = true then (if 0 ≤ IntKind.i64.wrap (i + 1) ∧ IntKind.i64.wrap (i + 1) < (ps.length : Int) then (if 0 ≤ IntKind.i64.wrap ((out.length : Int) - 1) ∧ IntKind.i64.wrap ((out.length : Int) - 1) < (out.length : Int) then (some (out.set (IntKind.i64.wrap ((out.length : Int) - 1)).toNat (⟨(rd z31 out (IntKind.i64.wrap ((out.length : Int) - 1))).f0, (rd 0 ps (IntKind.i64.wrap (i + 1)))⟩ : S31))) else none) else none) else (if 0 ≤ IntKind.i64.wrap (i + 1) ∧ IntKind.i64.wrap (i + 1) < (ps.length : Int) then (if (out.length + 1) * 16 ≤ 140737488355328 then (some (out ++ ([(⟨(rd 0 ps i), (rd 0 ps (IntKind.i64.wrap (i + 1)))⟩ : S31)] : List S31))) else none) else none))) = some out' ∧
    out'.length ≤ n + 1 ∧ okF (-1) out' ∧ top (-1) out' = b ∧ (∀ q, In out' q ↔ In out q ∨ (a ≤ q ∧ q < b)) := by
  rw [wi64_in (n := i + 1) (by omega) (by omega), ra, rb]
  have fresh : top (-1) out ≠ a → ∃ out', (if 0 ≤ i + 1 ∧ i + 1 < (ps.length : Int) then (if (out.length + 1) * 16 ≤ 140737488355328 then (some (out ++ ([(⟨a, b⟩ : S31)] : List S31))) else none) else none) = some out' ∧
      out'.length ≤ n + 1 ∧ okF (-1) out' ∧ top (-1) out' = b ∧ (∀ q, In out' q ↔ In out q ∨ (a ≤ q ∧ q < b)) := by
    intro h
    rw [if_pos (by omega), if_pos (by omega)]
    exact ⟨_, rfl, by simp; omega, okF_snoc.2 ⟨hok, by show top (-1) out < a; omega, hab⟩, top_snoc _ _ _, fun q => by rw [In_append, In_one]⟩
  by_cases c : (out.length : Int) > 0
  · obtain rfl | ⟨o, z, rfl⟩ := List.eq_nil_or_concat out
    · simp at c
    · rw [List.concat_eq_append] at *
      have hlen : (o ++ [z]).length = o.length + 1 := by simp
      have e : IntKind.i64.wrap (((o ++ [z]).length : Int) - 1) = (o.length : Int) := by rw [wi64_in (by omega) (by omega), hlen]; omega
      have hz : rd z31 (o ++ [z]) (o.length : Int) = z := rd_app (s := []) rfl
      rw [if_pos c, e, if_pos (by omega), some_bind, hz]
      rw [top_snoc] at *
      by_cases d : z.f1 = a
      · rw [if_pos (decide_eq_true d), if_pos (by omega), if_pos (by omega), Int.toNat_natCast]
        have es : (o ++ [z]).set o.length (⟨z.f0, b⟩ : S31) = o ++ [⟨z.f0, b⟩] := by simp
        have hk := okF_snoc.1 hok
        rw [es]
        refine ⟨_, rfl, by simp only [List.length_append, List.length_singleton] at *; omega, okF_snoc.2 ⟨hk.1, hk.2.1, by show z.f0 < b; omega⟩, top_snoc _ _ _, fun q => ?_⟩
        rw [In_append, In_append, In_one, In_one]
        constructor
        · rintro (g | g)
          · exact .inl (.inl g)
          · by_cases w : q < a
            · exact .inl (.inr ⟨g.1, by omega⟩)
            · exact .inr ⟨by omega, g.2⟩
        · rintro ((g | g) | g)
          · exact .inl g
          · exact .inr ⟨g.1, by show q < b; omega⟩
          · exact .inr ⟨by show z.f0 ≤ q; omega, g.2⟩
      · rw [if_neg (by simpa using d)]
        exact fresh d
  · have hnil : out = [] := List.length_eq_zero_iff.1 (by omega)
    rw [if_neg c, some_bind, if_neg nft]
    refine fresh (fun e => ?_)
    subst hnil
    simp only [top] at e; omega

theorem build_loop (κ : Int) (hκ : κ = 1 ∨ κ = 2 ∨ κ = 3 ∨ κ = 4) (l : List Span) (s : Span) (ps : List Int) (hn : ps.length ≤ 100000) (hll : l.length ≤ 1000000) (hs : ps.Pairwise (· < ·)) (hm : ∀ x ∈ l, x.f0 ∈ ps ∧ x.f1 ∈ ps) (hms : s.f0 ∈ ps ∧ s.f1 ∈ ps) (hpos : ∀ y ∈ ps, 0 ≤ y) (rest : List Int) :
    ∀ (pre : List Int) (a : Int) (out : List Span) (i : Int), ps = pre ++ a :: rest → (pre.length : Int) = i → out.length ≤ pre.length → okF (-1) out → top (-1) out ≤ a → (∀ q, q < a → (In out q ↔ passAt κ l s q = true)) →
    ∃ res, spec_l2Build.l0 l κ ps [s] i out = some res ∧ okF (-1) res ∧ (∀ q, In res q ↔ passAt κ l s q = true) := by
  have hm1 : ∀ x ∈ [s], x.f0 ∈ ps ∧ x.f1 ∈ ps := fun x hx => by simp at hx; subst hx; exact hms
  have pf : pass κ false false = false := by rcases hκ with rfl | rfl | rfl | rfl <;> rfl
  induction rest with
  | nil =>
    intro pre a out i hp hi ho hok hta hq
    refine ⟨out, ?_, hok, fun q => ?_⟩
    · have hlen : ps.length = pre.length + 1 := by rw [hp]; simp
      rw [spec_l2Build.l0, if_neg (by rw [wi64_in (by omega) (by omega)]; omega)]
    · by_cases c : q < a
      · exact hq q c
      · have last : ∀ y ∈ ps, y ≤ a := by
          intro y hy
          rw [hp] at hy hs
          rcases List.mem_append.1 hy with hy | hy
          · rw [List.pairwise_append] at hs; exact Int.le_of_lt (hs.2.2 y hy a (by simp))
          · simp at hy; omega
        have n1 : ¬ In l q := by rintro ⟨x, hx, g1, g2⟩; have := last _ (hm x hx).2; omega
        have n2 : ¬ In [s] q := by rintro ⟨x, hx, g1, g2⟩; have := last _ (hm1 x hx).2; omega
        constructor
        · intro g; have := top_gt hok g; omega
        · intro g; simp [passAt, n1, n2, pf] at g
  | cons b rest ih =>
    intro pre a out i hp hi ho hok hta hq
    have hlen : ps.length = pre.length + (rest.length + 2) := by rw [hp]; simp
    have hp' : ps = (pre ++ [a]) ++ b :: rest := by rw [hp]; simp
    have hab : a < b := by
      rw [hp, List.pairwise_append] at hs
      have := hs.2.1
      rw [List.pairwise_cons] at this
      exact this.1 b (by simp)
    have ha : 0 ≤ a := hpos a (by rw [hp]; simp)
    have ra : rd 0 ps i = a := by rw [hp]; exact rd_app hi
    have rb : rd 0 ps (i + 1) = b := by rw [hp']; exact rd_app (len_snoc hi)
    have st : ∀ q, a ≤ q → q < b → passAt κ l s q = passAt κ l s a := by
      intro q g1 g2
      have i1 := same_stretch hp hs hm g1 g2
      have i2 := same_stretch hp hs hm1 g1 g2
      simp only [passAt, i1, i2]
    have e1 : IntKind.i64.wrap (i + 1) = i + 1 := wi64_in (by omega) (by omega)
    have hc' : ∀ v, passAt κ l s a = v → pass κ (decide (In l (rd 0 ps i))) (decide (In [s] (rd 0 ps i))) = v := by rw [ra]; exact fun v h => h
    rw [spec_l2Build.l0, if_pos (by omega), if_pos (by omega), specIn_is l _ hll, some_bind, specIn_is _ _ (by simp), some_bind, pass_is κ hκ, some_bind]
    cases hc : passAt κ l s a with
    | true =>
      rw [hc' true hc, if_neg (by decide)]
      obtain ⟨out', b1, b2, b3, b4, b5⟩ := build_add ps pre.length i out a b hn (by omega) (by omega) ra rb ho (by omega) hok hta hab (by omega)
      rw [b1, some_bind, e1]
      refine ih (pre ++ [a]) b out' (i + 1) hp' (len_snoc hi) (by rw [List.length_append, List.length_singleton]; omega) b3 (by omega) (fun q g => ?_)
      rw [b5]
      by_cases w : q < a
      · rw [hq q w]; constructor
        · rintro (g | g)
          · exact g
          · omega
        · exact .inl
      · constructor
        · intro _; rw [st q (by omega) g]; exact hc
        · intro _; exact .inr ⟨by omega, g⟩
    | false =>
      rw [hc' false hc, if_pos (by decide), some_bind, e1]
      refine ih (pre ++ [a]) b out (i + 1) hp' (len_snoc hi) (by rw [List.length_append, List.length_singleton]; omega) hok (by omega) (fun q g => ?_)
      by_cases w : q < a
      · exact hq q w
      · rw [st q (by omega) g, hc]; constructor
        · intro g'; have := top_gt hok g'; omega
        · intro g'; cases g'

theorem build_is (κ : Int) (hκ : κ = 1 ∨ κ = 2 ∨ κ = 3 ∨ κ = 4) (l : List Span) (a b : Int) (hl : l.length ≤ 1000) (hpos : ∀ x ∈ l, 0 ≤ x.f0 ∧ 0 ≤ x.f1) (hab : 0 ≤ a ∧ 0 ≤ b) :
    ∃ res, spec_l2Build.f l a b κ = some res ∧ okF (-1) res ∧ (∀ q, In res q ↔ passAt κ l (⟨a, b⟩ : Span) q = true) := by
  have hmem : ∀ y, y ∈ pointsOf l (⟨a, b⟩ : Span) ↔ y = a ∨ y = b ∨ y ∈ ends l := by
    intro y; unfold pointsOf; rw [mem_pts]; simp
  have hends : ∀ y ∈ ends l, 0 ≤ y := by
    have : ∀ m : List Span, (∀ x ∈ m, 0 ≤ x.f0 ∧ 0 ≤ x.f1) → ∀ y ∈ ends m, 0 ≤ y := by
      intro m
      induction m with
      | nil => intro _ y hy; simp [ends] at hy
      | cons x t ih =>
        intro h y hy
        simp only [ends, List.mem_cons] at hy
        have hx := h x (by simp)
        rcases hy with rfl | rfl | hy
        · exact hx.1
        · exact hx.2
        · exact ih (fun z hz => h z (by simp [hz])) y hy
    exact this l hpos
  have hsorted : (pointsOf l (⟨a, b⟩ : Span)).Pairwise (· < ·) := pts_sorted _ [] List.Pairwise.nil
  have hlen : (pointsOf l (⟨a, b⟩ : Span)).length ≤ 100000 := by
    have h1 := pts_length ([a, b] ++ ends l) []
    have h2 := ends_length l
    unfold pointsOf
    simp only [List.length_append, List.length_cons, List.length_nil, h2] at h1
    simp only [] at *
    omega
  obtain ⟨p0, rest, hp⟩ : ∃ p0 rest, pointsOf l (⟨a, b⟩ : Span) = p0 :: rest := by
    cases h : pointsOf l (⟨a, b⟩ : Span) with
    | nil => have := (hmem a).2 (.inl rfl); rw [h] at this; simp at this
    | cons p0 rest => exact ⟨p0, rest, rfl⟩
  have first : ∀ y ∈ pointsOf l (⟨a, b⟩ : Span), p0 ≤ y := by
    intro y hy
    rw [hp] at hy hsorted
    rcases List.mem_cons.1 hy with rfl | hy
    · exact Int.le_refl _
    · exact Int.le_of_lt ((List.pairwise_cons.1 hsorted).1 y hy)
  have hm : ∀ x ∈ l, x.f0 ∈ pointsOf l (⟨a, b⟩ : Span) ∧ x.f1 ∈ pointsOf l (⟨a, b⟩ : Span) := fun x hx => ⟨(hmem _).2 (.inr (.inr (mem_ends hx).1)), (hmem _).2 (.inr (.inr (mem_ends hx).2))⟩
  have pf : pass κ false false = false := by rcases hκ with rfl | rfl | rfl | rfl <;> rfl
  obtain ⟨res, e, r1, r2⟩ := build_loop κ hκ l (⟨a, b⟩ : Span) _ hlen (by omega) hsorted hm ⟨(hmem _).2 (.inl rfl), (hmem _).2 (.inr (.inl rfl))⟩ (fun y hy => by
      rcases (hmem y).1 hy with rfl | rfl | hy
      · exact hab.1
      · exact hab.2
      · exact hends y hy) rest [] p0 [] 0 (by simpa using hp) rfl (by simp) trivial (by
        have := (hmem p0).1 (by rw [hp]; simp)
        simp only [top]
        rcases this with h | h | h
        · omega
        · omega
        · have := hends p0 h; omega) (fun q hq => by
        have n1 : ¬ In l q := by rintro ⟨x, hx, g1, g2⟩; have := first _ (hm x hx).1; omega
        have n2 : ¬ In [(⟨a, b⟩ : Span)] q := by rw [In_one]; rintro ⟨g1, g2⟩; have := first a ((hmem a).2 (.inl rfl)); simp only [] at g1; omega
        simp [passAt, n1, n2, pf, In_nil])
  refine ⟨res, ?_, r1, r2⟩
  unfold spec_l2Build.f
  rw [points_is l a b hl, some_bind, e]; rfl

/-- What a list of spans is answered as. -/
def lim (R : List Span) : List Span × Int := if (R.length : Int) > 1000 then ([], 5) else (R, 0)
theorem do_good (κ : Int) (l res : List Span) (a b : Int) (hs : setok l = true) (hab : a ≤ b) (hp0 : ∀ x ∈ l, 0 ≤ x.f0) (e : spec_l2Build.f l a b κ = some res) : spec_l2Do.f l a b κ = some (lim res) := by
  unfold spec_l2Do.f lim
  rw [setOK_is l hp0, hs, some_bind, if_neg (by decide), some_bind, if_neg (by simpa using hab), e, some_bind]
  split <;> rfl
theorem do_bad (κ : Int) (l : List Span) (a b : Int) (hp0 : ∀ x ∈ l, 0 ≤ x.f0) (h : ¬ (setok l = true ∧ a ≤ b)) : spec_l2Do.f l a b κ = some ([], 1) := by
  unfold spec_l2Do.f
  rw [setOK_is l hp0, some_bind]
  cases hs : setok l with
  | false => rw [if_pos (by decide), some_bind, if_pos rfl]
  | true =>
    have : a > b := by rcases Int.lt_or_le b a with c | c; exact c; exact absurd ⟨hs, c⟩ h
    rw [if_neg (by decide), some_bind, if_pos (decide_eq_true this)]
end Go.AK
