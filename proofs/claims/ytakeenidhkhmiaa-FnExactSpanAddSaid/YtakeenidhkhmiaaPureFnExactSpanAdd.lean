/- For every list of spans and every span, the program's SpanAdd is the reference's, spans and code; it writes into no argument, and its answer is its own memory. No condition. -/
import Derived.Test.YtakeenidhkhmiaaPFnExactSpanAddx7
import Derived.Test.YtakeenidhkhmiaaEvB
namespace Go.Proofs.Ytakeenidhkhmiaa.Pure
open Go.RowKit Go.Proofs.Ytakeenidhkhmiaa.PFnExactSpanAdd Go.Proofs.YtakeenidhkhmiaaW.PrintWords Go.Proofs.YtakeenidhkhmiaaW.PrintLast Go.Proofs.Ytakeenidhkhmiaa.Base
abbrev Span := S31
abbrev LSpan := S25
/-! ### Span sets: lists in rising order with gaps; two with the same offsets are one list -/
def In (l : List Span) (q : Int) : Prop := ∃ x ∈ l, x.f0 ≤ q ∧ q < x.f1
def okF : Int → List Span → Prop
  | _, [] => True
  | b, x :: t => b < x.f0 ∧ x.f0 < x.f1 ∧ okF x.f1 t
def top : Int → List Span → Int
  | b, [] => b
  | _, x :: t => top x.f1 t

theorem In_nil (q : Int) : ¬ In [] q := fun ⟨_, h, _⟩ => by simp at h
theorem In_cons (x : Span) (t : List Span) (q : Int) : In (x :: t) q ↔ (x.f0 ≤ q ∧ q < x.f1) ∨ In t q := by
  constructor
  · rintro ⟨y, hy, h⟩
    rcases List.mem_cons.1 hy with rfl | hy
    · exact .inl h
    · exact .inr ⟨y, hy, h⟩
  · rintro (h | ⟨y, hy, h⟩)
    · exact ⟨x, by simp, h⟩
    · exact ⟨y, by simp [hy], h⟩
theorem In_append (l m : List Span) (q : Int) : In (l ++ m) q ↔ In l q ∨ In m q := by
  constructor
  · rintro ⟨y, hy, h⟩
    rcases List.mem_append.1 hy with hy | hy
    · exact .inl ⟨y, hy, h⟩
    · exact .inr ⟨y, hy, h⟩
  · rintro (⟨y, hy, h⟩ | ⟨y, hy, h⟩)
    · exact ⟨y, by simp [hy], h⟩
    · exact ⟨y, by simp [hy], h⟩
theorem In_one (x : Span) (q : Int) : In [x] q ↔ x.f0 ≤ q ∧ q < x.f1 := by rw [In_cons]; simp [In_nil]
theorem okF_gt {b : Int} {l : List Span} (h : okF b l) {q : Int} (hq : In l q) : b < q := by
  induction l generalizing b with
  | nil => exact absurd hq (In_nil q)
  | cons x t ih =>
    obtain ⟨h1, h2, h3⟩ := h
    rcases (In_cons x t q).1 hq with h | h
    · omega
    · have := ih h3 h; omega
theorem okF_mono {b b' : Int} {l : List Span} (hb : b' ≤ b) (h : okF b l) : okF b' l := by
  cases l with
  | nil => trivial
  | cons x t => exact ⟨by have := h.1; omega, h.2⟩
theorem top_ge {b : Int} {l : List Span} (h : okF b l) : b ≤ top b l := by
  induction l generalizing b with
  | nil => exact Int.le_refl _
  | cons x t ih => obtain ⟨h1, h2, h3⟩ := h; have := ih h3; simp only [top]; omega
theorem top_gt {b : Int} {l : List Span} (h : okF b l) {q : Int} (hq : In l q) : q < top b l := by
  induction l generalizing b with
  | nil => exact absurd hq (In_nil q)
  | cons x t ih =>
    obtain ⟨h1, h2, h3⟩ := h
    simp only [top]
    rcases (In_cons x t q).1 hq with h | h
    · have := top_ge h3; omega
    · exact ih h3 h
theorem top_snoc (b : Int) (l : List Span) (x : Span) : top b (l ++ [x]) = x.f1 := by
  induction l generalizing b with
  | nil => rfl
  | cons y t ih => exact ih _
theorem okF_snoc {b : Int} {l : List Span} {x : Span} : okF b (l ++ [x]) ↔ okF b l ∧ top b l < x.f0 ∧ x.f0 < x.f1 := by
  induction l generalizing b with
  | nil => simp [okF, top]
  | cons y t ih => simp only [List.cons_append, okF, top, ih]; constructor <;> (intro h; simp only [h, and_self])
theorem okF_append {b : Int} {l m : List Span} : okF b (l ++ m) ↔ okF b l ∧ okF (top b l) m := by
  induction l generalizing b with
  | nil => simp [okF, top]
  | cons y t ih => simp only [List.cons_append, okF, top, ih]; constructor <;> (intro h; simp only [h, and_self])
theorem top_append (b : Int) (l m : List Span) : top b (l ++ m) = top (top b l) m := by
  induction l generalizing b with
  | nil => rfl
  | cons y t ih => exact ih _
theorem span_ext {x y : Span} (h0 : x.f0 = y.f0) (h1 : x.f1 = y.f1) : x = y := by cases x; cases y; simp_all
theorem canon {b b' : Int} {l l' : List Span} (h : okF b l) (h' : okF b' l') (hq : ∀ q, In l q ↔ In l' q) : l = l' := by
  induction l generalizing b b' l' with
  | nil =>
    cases l' with
    | nil => rfl
    | cons y t => exact absurd ((hq y.f0).2 ((In_cons _ _ _).2 (.inl ⟨Int.le_refl _, h'.2.1⟩))) (In_nil _)
  | cons x t ih =>
    cases l' with
    | nil => exact absurd ((hq x.f0).1 ((In_cons _ _ _).2 (.inl ⟨Int.le_refl _, h.2.1⟩))) (In_nil _)
    | cons y t' =>
      obtain ⟨h1, h2, h3⟩ := h
      obtain ⟨g1, g2, g3⟩ := h'
      have e0 : x.f0 = y.f0 := by
        have a := (In_cons _ _ _).1 ((hq x.f0).1 ((In_cons _ _ _).2 (.inl ⟨Int.le_refl _, h2⟩)))
        have c := (In_cons _ _ _).1 ((hq y.f0).2 ((In_cons _ _ _).2 (.inl ⟨Int.le_refl _, g2⟩)))
        rcases a with a | a
        · rcases c with c | c
          · omega
          · have := okF_gt h3 c; omega
        · have := okF_gt g3 a
          rcases c with c | c
          · omega
          · have := okF_gt h3 c; omega
      have e1 : x.f1 = y.f1 := by
        rcases Int.lt_trichotomy x.f1 y.f1 with c | c | c
        · have a := (In_cons _ _ _).1 ((hq x.f1).2 ((In_cons _ _ _).2 (.inl ⟨by omega, c⟩)))
          rcases a with a | a
          · omega
          · have := okF_gt h3 a; omega
        · exact c
        · have a := (In_cons _ _ _).1 ((hq y.f1).1 ((In_cons _ _ _).2 (.inl ⟨by omega, c⟩)))
          rcases a with a | a
          · omega
          · have := okF_gt g3 a; omega
      rw [span_ext e0 e1]
      congr 1
      refine ih h3 (e1 ▸ g3) (fun q => ?_)
      constructor
      · intro hm
        have hg := okF_gt h3 hm
        rcases (In_cons _ _ _).1 ((hq q).1 ((In_cons _ _ _).2 (.inr hm))) with a | a
        · omega
        · exact a
      · intro hm
        have hg := okF_gt g3 hm
        rcases (In_cons _ _ _).1 ((hq q).2 ((In_cons _ _ _).2 (.inr hm))) with a | a
        · omega
        · exact a
instance decIn (l : List Span) (q : Int) : Decidable (In l q) := List.decidableBEx (fun x : Span => x.f0 ≤ q ∧ q < x.f1) l
instance decOkF : (b : Int) → (l : List Span) → Decidable (okF b l)
  | _, [] => isTrue trivial
  | _, x :: t => @instDecidableAnd _ _ _ (@instDecidableAnd _ _ _ (decOkF x.f1 t))
/-! ### the reference's way to a span set: sorted points, stretches between neighbours -/
theorem rdT_mid (pre xs : List Span) (x : Span) : rd_T31 (pre ++ x :: xs) (pre.length : Int) = x := by simp [rd_T31]
theorem rdT_last (pre xs : List Span) (b : Int) (h : pre ≠ []) (hl : pre.length < 1000000) : (rd_T31 (pre ++ xs) (wrap64 ((pre.length : Int) - 1))).f1 = top b pre := by
  obtain rfl | ⟨p, z, rfl⟩ := List.eq_nil_or_concat pre
  · exact absurd rfl h
  · have e : wrap64 (((p ++ [z]).length : Int) - 1) = (p.length : Int) := by
      rw [w64_in (by simp) (by simp at hl ⊢; omega)]; simp
    rw [List.concat_eq_append] at *
    rw [e, top_snoc, List.append_assoc, List.singleton_append, rdT_mid]

theorem setOK_loop (xs : List Span) : ∀ pre : List Span, (pre ++ xs).length ≤ 1000 → (∀ x ∈ xs, 0 ≤ x.f0) →
    Ev (fun k => spec_l2SetOK.l0 k (pre ++ xs) (pre.length : Int)) (decide (okF (top (-1) pre) xs)) := by
  induction xs with
  | nil => intro pre hl _; refine ev_succ ?_; simp only [spec_l2SetOK.l0]; exact ev_neg (by simp) (ev_eq (Ev.now _) rfl)
  | cons x t ih =>
    intro pre hl hx
    have hx0 := hx x (by simp)
    simp only [List.length_append, List.length_cons] at hl
    refine ev_succ ?_; simp only [spec_l2SetOK.l0]
    refine ev_pos (by simp; omega) (ev_pos (by omega) ?_)
    simp only [rdT_mid]
    have go : top (-1) pre < x.f0 → x.f0 < x.f1 → Ev (fun k => spec_l2SetOK.l0 k (pre ++ x :: t) (wrap64 ((pre.length : Int) + 1))) (decide (okF (top (-1) pre) (x :: t))) := by
      intro h1 h2
      rw [next_at pre x (by omega), snoc_cons pre t x]
      refine ev_eq (ih (pre ++ [x]) (by simp; omega) (fun y hy => hx y (by simp [hy]))) ?_
      rw [top_snoc]
      simp [okF, h1, h2]
    by_cases c : x.f0 ≥ x.f1
    · refine ev_pos c (ev_eq (Ev.now _) ?_)
      rw [eq_comm, decide_eq_false_iff_not]; rintro ⟨_, h, _⟩; omega
    · refine ev_neg c ?_
      by_cases p : pre = []
      · subst p
        exact ev_neg (by simp) (go (by simp [top]; omega) (by omega))
      · have hp : 0 < pre.length := List.length_pos_iff.2 p
        refine ev_pos (by omega) ?_
        have e : wrap64 ((pre.length : Int) - 1) = (pre.length : Int) - 1 := w64_in (by omega) (by omega)
        refine ev_pos (by omega) (ev_pos (by simp; omega) ?_)
        rw [rdT_last pre (x :: t) (-1) p (by omega)]
        by_cases d : x.f0 ≤ top (-1) pre
        · refine ev_pos d (ev_eq (Ev.now _) ?_)
          rw [eq_comm, decide_eq_false_iff_not]; rintro ⟨h, _, _⟩; omega
        · exact ev_neg d (go (by omega) (by omega))

def setok (l : List Span) : Bool := decide (l.length ≤ 1000 ∧ okF (-1) l)
theorem setOK_is (l : List Span) (hx : ∀ x ∈ l, 0 ≤ x.f0) : Ev (fun k => spec_l2SetOK.f k l) (setok l) := by
  unfold spec_l2SetOK.f setok
  by_cases c : (l.length : Int) > 1000
  · refine ev_pos c (ev_eq (Ev.now _) ?_)
    rw [eq_comm, decide_eq_false_iff_not]; rintro ⟨h, _⟩; omega
  · refine ev_neg c (ev_eq (setOK_loop l [] (by simp; omega) hx) ?_)
    rw [decide_eq_decide]; simp only [top]; constructor
    · intro h; exact ⟨by omega, h⟩
    · exact fun h => h.2

theorem specIn_loop (q : Int) (xs : List Span) : ∀ pre : List Span, (pre ++ xs).length ≤ 1000000 → ¬ In pre q →
    Ev (fun k => spec_l2In.l0 k (pre ++ xs) q (pre.length : Int)) (decide (In (pre ++ xs) q)) := by
  induction xs with
  | nil => intro pre hl h; refine ev_succ ?_; simp only [spec_l2In.l0]; exact ev_neg (by simp) (ev_eq (Ev.now _) (by simp [h]))
  | cons x t ih =>
    intro pre hl h
    simp only [List.length_append, List.length_cons] at hl
    refine ev_succ ?_; simp only [spec_l2In.l0]
    refine ev_pos (by simp; omega) (ev_pos (by omega) ?_)
    simp only [rdT_mid]
    have go : ¬ (x.f0 ≤ q ∧ q < x.f1) → Ev (fun k => spec_l2In.l0 k (pre ++ x :: t) q (wrap64 ((pre.length : Int) + 1))) (decide (In (pre ++ x :: t) q)) := by
      intro hn
      rw [next_at pre x (by omega), snoc_cons pre t x]
      exact ih (pre ++ [x]) (by simp; omega) (by rw [In_append, In_one]; exact fun o => o.elim h hn)
    by_cases c : q ≥ x.f0
    · refine ev_pos c ?_
      by_cases d : q < x.f1
      · refine ev_pos d (ev_eq (Ev.now _) ?_)
        rw [eq_comm, decide_eq_true_iff, In_append, In_cons]; exact .inr (.inl ⟨c, d⟩)
      · exact ev_neg d (go (fun o => d o.2))
    · exact ev_neg c (go (fun o => c o.1))
theorem specIn_is (l : List Span) (q : Int) (hl : l.length ≤ 1000000) : Ev (fun k => spec_l2In.f k l q) (decide (In l q)) := by
  unfold spec_l2In.f
  exact specIn_loop q l [] (by simpa using hl) (In_nil q)

/-- Laid into a list without repetitions that rises. -/
def ins (a : Int) : List Int → List Int
  | [] => [a]
  | x :: t => if a ≤ x then (if a = x then x :: t else a :: x :: t) else x :: ins a t
theorem mem_ins (a y : Int) (l : List Int) : y ∈ ins a l ↔ y = a ∨ y ∈ l := by
  induction l with
  | nil => simp [ins]
  | cons x t ih =>
    simp only [ins]
    split
    · split
      · rename_i _ h; subst h; simp
      · simp
    · simp only [List.mem_cons, ih]; constructor
      · rintro (h | h | h)
        · exact .inr (.inl h)
        · exact .inl h
        · exact .inr (.inr h)
      · rintro (h | h | h)
        · exact .inr (.inl h)
        · exact .inl h
        · exact .inr (.inr h)
theorem ins_sorted (a : Int) (l : List Int) (h : l.Pairwise (· < ·)) : (ins a l).Pairwise (· < ·) := by
  induction l with
  | nil => simp [ins]
  | cons x t ih =>
    rw [List.pairwise_cons] at h
    simp only [ins]
    split
    · split
      · exact List.pairwise_cons.2 h
      · rename_i h1 h2
        refine List.pairwise_cons.2 ⟨fun y hy => ?_, List.pairwise_cons.2 h⟩
        rcases List.mem_cons.1 hy with rfl | hy
        · omega
        · have := h.1 y hy; omega
    · refine List.pairwise_cons.2 ⟨fun y hy => ?_, ih h.2⟩
      rcases (mem_ins a y t).1 hy with rfl | hy
      · omega
      · exact h.1 y hy
theorem ins_length (a : Int) (l : List Int) : (ins a l).length ≤ l.length + 1 := by
  induction l with
  | nil => simp [ins]
  | cons x t ih =>
    simp only [ins]
    split
    · split <;> simp
    · simp only [List.length_cons]; omega

set_option linter.unusedVariables false in
theorem points_in (all : List Int) (i : Int) (hi0 : 0 ≤ i) (hi : i < (all.length : Int)) (hal : all.length ≤ 1000000) (res : List Int) (xs : List Int) : ∀ (pre nx : List Int) (dn : Bool), (pre ++ xs).length ≤ 1000000 → nx.length ≤ pre.length + dn.toNat →
    Ev (fun k => spec_l2Points.l1 k all (nx ++ if dn then xs else ins (rd all i) xs) (wrap64 (i + 1))) res →
    Ev (fun k => spec_l2Points.l2 k all (pre ++ xs) i nx dn (pre.length : Int)) res := by
  induction xs with
  | nil =>
    intro pre nx dn hl hn h
    simp only [List.append_nil] at hl
    have hb : dn.toNat ≤ 1 := by cases dn <;> simp
    refine ev_succ ?_; simp only [spec_l2Points.l2]
    refine ev_neg (by simp) ?_
    cases dn with
    | true => exact ev_pos (by trivial) (by simpa using h)
    | false =>
      refine ev_neg (by simp) (ev_pos hi0 (ev_pos hi (ev_pos (by omega) ?_)))
      simpa [ins] using h
  | cons x t ih =>
    intro pre nx dn hl hn h
    simp only [List.length_append, List.length_cons] at hl
    have hx : rd (pre ++ x :: t) (pre.length : Int) = x := rd_mid pre t x
    refine ev_succ ?_; simp only [spec_l2Points.l2]
    refine ev_pos (by simp; omega) ?_
    have hlt : (pre.length : Int) < ((pre ++ x :: t).length : Int) := by simp; omega
    cases dn with
    | true =>
      simp only [Bool.toNat_true] at hn
      refine ev_pos (by trivial) (ev_succ ?_); simp only [spec_l2Points.j3]
      refine ev_neg (by simp) (ev_pos (by omega) (ev_pos hlt (ev_pos (by omega) ?_)))
      rw [hx, next_at pre x (by omega), snoc_cons pre t x]
      refine ih (pre ++ [x]) _ true (by simp; omega) (by simp; omega) ?_
      simpa using h
    | false =>
      simp only [Bool.toNat_false] at hn
      refine ev_neg (by simp) (ev_pos hi0 (ev_pos hi (ev_pos (by omega) ?_)))
      rw [hx]
      refine ev_succ ?_; simp only [spec_l2Points.j3]
      simp only [ins] at h
      by_cases c : rd all i ≤ x
      · refine ev_pos (by simpa using c) (ev_pos hi0 (ev_pos hi (ev_pos (by omega) (ev_pos hlt ?_))))
        simp only [hx]
        by_cases d : rd all i = x
        · refine ev_pos d (ev_pos (by omega) ?_)
          rw [next_at pre x (by omega), snoc_cons pre t x]
          refine ih (pre ++ [x]) _ true (by simp; omega) (by simp; omega) ?_
          simpa [c, d] using h
        · refine ev_neg d (ev_pos (by omega) (ev_some (ev_pos (by simp; omega) ?_)))
          rw [next_at pre x (by omega), snoc_cons pre t x]
          refine ih (pre ++ [x]) _ true (by simp; omega) (by simp; omega) ?_
          simpa [c, d] using h
      · refine ev_neg (by simpa using c) (ev_pos (by omega) (ev_pos hlt (ev_pos (by omega) ?_)))
        simp only [hx]
        rw [next_at pre x (by omega), snoc_cons pre t x]
        refine ih (pre ++ [x]) _ false (by simp; omega) (by simp; omega) ?_
        simpa [c] using h

/-- All points, each once, rising. -/
def pts (all : List Int) (o : List Int) : List Int := all.foldl (fun o a => ins a o) o
theorem pts_sorted (all : List Int) : ∀ o : List Int, o.Pairwise (· < ·) → (pts all o).Pairwise (· < ·) := by
  induction all with
  | nil => exact fun o h => h
  | cons a t ih => exact fun o h => ih _ (ins_sorted a o h)
theorem mem_pts (all : List Int) (y : Int) : ∀ o : List Int, y ∈ pts all o ↔ y ∈ all ∨ y ∈ o := by
  induction all with
  | nil => intro o; simp [pts]
  | cons a t ih =>
    intro o
    show y ∈ pts t (ins a o) ↔ _
    rw [ih, mem_ins, List.mem_cons]
    constructor
    · rintro (h | h | h)
      · exact .inl (.inr h)
      · exact .inl (.inl h)
      · exact .inr h
    · rintro ((h | h) | h)
      · exact .inr (.inl h)
      · exact .inl h
      · exact .inr (.inr h)
theorem pts_length (all : List Int) : ∀ o : List Int, (pts all o).length ≤ all.length + o.length := by
  induction all with
  | nil => intro o; simp [pts]
  | cons a t ih =>
    intro o
    have h1 := ih (ins a o)
    have h2 := ins_length a o
    show (pts t (ins a o)).length ≤ _
    simp only [List.length_cons]; omega

theorem points_out (ys : List Int) : ∀ (pre o : List Int), (pre ++ ys).length ≤ 100000 → o.length ≤ pre.length →
    Ev (fun k => spec_l2Points.l1 k (pre ++ ys) o (pre.length : Int)) (pts ys o) := by
  induction ys with
  | nil => intro pre o hl ho; refine ev_succ ?_; simp only [spec_l2Points.l1]; exact ev_neg (by simp) (Ev.now _)
  | cons y t ih =>
    intro pre o hl ho
    have hl' := hl
    simp only [List.length_append, List.length_cons] at hl
    refine ev_succ ?_; simp only [spec_l2Points.l1]
    refine ev_pos (by simp; omega) ?_
    refine points_in (pre ++ y :: t) pre.length (by omega) (by simp; omega) (by omega) _ o [] [] false (by simp; omega) (by simp) ?_
    rw [rd_mid, next_at pre y (by omega), snoc_cons pre t y]
    refine ih (pre ++ [y]) _ (by simp; omega) ?_
    have := ins_length y o
    simp; omega

def ends : List Span → List Int
  | [] => []
  | x :: t => x.f0 :: x.f1 :: ends t
theorem ends_length (l : List Span) : (ends l).length = 2 * l.length := by
  induction l with
  | nil => rfl
  | cons x t ih => simp only [ends, List.length_cons, ih]; omega
theorem mem_ends {l : List Span} {x : Span} (h : x ∈ l) : x.f0 ∈ ends l ∧ x.f1 ∈ ends l := by
  induction l with
  | nil => simp at h
  | cons y t ih =>
    rcases List.mem_cons.1 h with rfl | h
    · simp [ends]
    · have := ih h; simp [ends, this]
theorem points_all (res : List Int) (xs : List Span) : ∀ (pre : List Span) (all : List Int), (pre ++ xs).length ≤ 1000 → all.length ≤ 2 * pre.length + 2 →
    Ev (fun k => spec_l2Points.l1 k (all ++ ends xs) [] 0) res → Ev (fun k => spec_l2Points.l0 k (pre ++ xs) all (pre.length : Int)) res := by
  induction xs with
  | nil => intro pre all hl ha h; refine ev_succ ?_; simp only [spec_l2Points.l0]; exact ev_neg (by simp) (by simpa [ends] using h)
  | cons x t ih =>
    intro pre all hl ha h
    simp only [List.length_append, List.length_cons] at hl
    refine ev_succ ?_; simp only [spec_l2Points.l0]
    refine ev_pos (by simp; omega) (ev_pos (by omega) (ev_pos (by omega) (ev_some (ev_pos (by simp; omega) ?_))))
    simp only [rdT_mid]
    rw [next_at pre x (by omega), snoc_cons pre t x]
    refine ih (pre ++ [x]) _ (by simp; omega) (by simp; omega) ?_
    simpa [ends] using h
def pointsOf (l : List Span) (s : Span) : List Int := pts ([s.f0, s.f1] ++ ends l) []
theorem points_is (l : List Span) (a b : Int) (hl : l.length ≤ 1000) : Ev (fun k => spec_l2Points.f k l a b) (pointsOf l (⟨a, b⟩ : Span)) := by
  unfold spec_l2Points.f pointsOf
  refine points_all _ l [] [a, b] (by simpa using hl) (by simp) ?_
  refine points_out _ [] [] ?_ (by simp)
  have := ends_length l
  simp [this]; omega

/-- Which offsets pass. -/
def pass (κ : Int) (A B : Bool) : Bool := if κ = 1 then A || B else if κ = 2 then A && !B else if κ = 3 then B && !A else A && B
def passAt (κ : Int) (l : List Span) (s : Span) (q : Int) : Bool := pass κ (decide (In l q)) (decide (In [s] q))

theorem between {pre rest : List Int} {a b y : Int} (h : (pre ++ a :: b :: rest).Pairwise (· < ·)) (hy : y ∈ pre ++ a :: b :: rest) : y ≤ a ∨ b ≤ y := by
  rw [List.pairwise_append] at h
  obtain ⟨_, h2, h3⟩ := h
  rcases List.mem_append.1 hy with hy | hy
  · exact .inl (Int.le_of_lt (h3 y hy a (by simp)))
  · rw [List.pairwise_cons, List.pairwise_cons] at h2
    rcases List.mem_cons.1 hy with rfl | hy
    · exact .inl (Int.le_refl _)
    · rcases List.mem_cons.1 hy with rfl | hy
      · exact .inr (Int.le_refl _)
      · exact .inr (Int.le_of_lt (h2.2.1 y hy))
theorem same_stretch {l : List Span} {ps pre rest : List Int} {a b : Int} (hp : ps = pre ++ a :: b :: rest) (h : ps.Pairwise (· < ·)) (hm : ∀ x ∈ l, x.f0 ∈ ps ∧ x.f1 ∈ ps) {q : Int} (h1 : a ≤ q) (h2 : q < b) : In l q ↔ In l a := by
  subst hp
  constructor
  · rintro ⟨x, hx, g1, g2⟩
    obtain ⟨m0, m1⟩ := hm x hx
    have c0 := between h m0
    exact ⟨x, hx, by omega, by omega⟩
  · rintro ⟨x, hx, g1, g2⟩
    obtain ⟨m0, m1⟩ := hm x hx
    have c1 := between h m1
    exact ⟨x, hx, by omega, by omega⟩

set_option maxRecDepth 10000 in
theorem build_step (κ : Int) (hκ : κ = 1 ∨ κ = 2 ∨ κ = 3 ∨ κ = 4) (x0 : List Span) (x7 : List Int) (x8 x9 : List Span) (x10 : Int) (res : List Span) (hlt : wrap64 (x10 + 1) < (x7.length : Int)) (h0 : 0 ≤ x10) (h1 : x10 < (x7.length : Int)) (hl : x0.length ≤ 1000000) (h8 : x8.length ≤ 1000000)
    (h : Ev (fun k => spec_l2Build.j1 k x0 κ x7 x8 x9 x10 (pass κ (decide (In x0 (rd x7 x10))) (decide (In x8 (rd x7 x10))))) res) : Ev (fun k => spec_l2Build.l0 k x0 κ x7 x8 x9 x10) res := by
  refine ev_succ ?_; simp only [spec_l2Build.l0]
  refine ev_pos hlt (ev_pos h0 (ev_pos h1 (ev_bind (specIn_is x0 _ hl) (ev_bind (specIn_is x8 _ h8) ?_))))
  generalize decide (In x0 (rd x7 x10)) = A at *
  generalize decide (In x8 (rd x7 x10)) = B at *
  rcases hκ with rfl | rfl | rfl | rfl <;> cases A <;> cases B <;> simpa [pass] using h

theorem build_add (κ : Int) (x0 : List Span) (ps pre rest : List Int) (x8 out : List Span) (a b : Int) (res : List Span) (hp : ps = pre ++ a :: b :: rest) (hn : ps.length ≤ 100000) (ho : out.length ≤ pre.length) (hok : okF (-1) out)
    (h : ∀ out' : List Span, out'.length ≤ pre.length + 1 → okF (-1) out' → top (-1) out' = b → (∀ q, In out' q ↔ In out q ∨ (a ≤ q ∧ q < b)) → Ev (fun k => spec_l2Build.l0 k x0 κ ps x8 out' ((pre ++ [a]).length : Int)) res)
    (hta : top (-1) out ≤ a) (hab : a < b) (ha : -1 < a) : Ev (fun k => spec_l2Build.j1 k x0 κ ps x8 out (pre.length : Int) true) res := by
  have hlen : ps.length = pre.length + (rest.length + 2) := by rw [hp]; simp
  have e1 : wrap64 ((pre.length : Int) + 1) = (pre.length : Int) + 1 := w64_in (by omega) (by omega)
  have ra : rd ps (pre.length : Int) = a := by rw [hp]; exact rd_mid pre (b :: rest) a
  have rb : rd ps ((pre.length : Int) + 1) = b := by
    rw [hp, snoc_cons pre (b :: rest) a]
    have := rd_mid (pre ++ [a]) rest b
    simpa using this
  have en : (((pre ++ [a]).length : Nat) : Int) = (pre.length : Int) + 1 := by simp
  rw [en] at h
  have fresh : Ev (fun k => spec_l2Build.l0 k x0 κ ps x8 (out ++ [(⟨a, b⟩ : Span)]) ((pre.length : Int) + 1)) res ∨ top (-1) out = a := by
    by_cases c : top (-1) out = a
    · exact .inr c
    · exact .inl (h _ (by simp; omega) (okF_snoc.2 ⟨hok, by show top (-1) out < a; omega, hab⟩) (top_snoc _ _ _) (fun q => by rw [In_append, In_one]))
  refine ev_succ ?_; simp only [spec_l2Build.j1]
  refine ev_pos (by trivial) ?_
  rw [e1, ra, rb]
  by_cases c : (out.length : Int) > 0
  · refine ev_pos c ?_
    have e2 : wrap64 ((out.length : Int) - 1) = (out.length : Int) - 1 := w64_in (by omega) (by omega)
    have hne : out ≠ [] := by rintro rfl; simp at c
    have hlast := rdT_last out [] (-1) hne (by omega)
    rw [List.append_nil] at hlast
    refine ev_pos (by omega) (ev_pos (by omega) (ev_pos (by omega) (ev_pos (by omega) ?_)))
    rw [hlast]
    by_cases d : top (-1) out = a
    · refine ev_pos d (ev_pos (by omega) (ev_pos (by omega) ?_))
      obtain rfl | ⟨o, z, rfl⟩ := List.eq_nil_or_concat out
      · exact absurd rfl hne
      · rw [List.concat_eq_append] at *
        have e3 : wrap64 (((o ++ [z]).length : Int) - 1) = (o.length : Int) := by rw [e2]; simp
        rw [e3]
        have hz : rd_T31 (o ++ [z]) (o.length : Int) = z := rdT_mid o [] z
        rw [hz, set_mid o [] z]
        rw [top_snoc] at d
        have hk := okF_snoc.1 hok
        refine h _ (by simp at ho ⊢; omega) (okF_snoc.2 ⟨hk.1, hk.2.1, by show z.f0 < b; omega⟩) (top_snoc _ _ _) (fun q => ?_)
        rw [In_append, In_append, In_one, In_one]
        constructor
        · rintro (g | g)
          · exact .inl (.inl g)
          · by_cases w : q < a
            · exact .inl (.inr ⟨g.1, by omega⟩)
            · exact .inr ⟨by omega, g.2⟩
        · rintro ((g | g) | g)
          · exact .inl g
          · exact .inr ⟨g.1, by show q < b; omega⟩
          · exact .inr ⟨by show z.f0 ≤ q; omega, g.2⟩
    · refine ev_neg d (ev_pos (by omega) (ev_pos (by omega) (ev_pos (by omega) ?_)))
      exact fresh.elim id (fun e => absurd e d)
  · have hnil : out = [] := List.length_eq_zero_iff.1 (by omega)
    refine ev_neg c (ev_pos (by omega) (ev_pos (by omega) (ev_pos (by omega) (ev_pos (by omega) (ev_pos (by omega) ?_)))))
    refine fresh.elim id (fun e => ?_)
    subst hnil
    simp only [top] at e; omega

theorem build_loop (κ : Int) (hκ : κ = 1 ∨ κ = 2 ∨ κ = 3 ∨ κ = 4) (l : List Span) (s : Span) (ps : List Int) (hn : ps.length ≤ 100000) (hll : l.length ≤ 1000000) (hs : ps.Pairwise (· < ·)) (hm : ∀ x ∈ l, x.f0 ∈ ps ∧ x.f1 ∈ ps) (hms : s.f0 ∈ ps ∧ s.f1 ∈ ps) (hpos : ∀ y ∈ ps, 0 ≤ y) (rest : List Int) :
    ∀ (pre : List Int) (a : Int) (out : List Span), ps = pre ++ a :: rest → out.length ≤ pre.length → okF (-1) out → top (-1) out ≤ a → (∀ q, q < a → (In out q ↔ passAt κ l s q = true)) →
    ∃ res, Ev (fun k => spec_l2Build.l0 k l κ ps [s] out (pre.length : Int)) res ∧ okF (-1) res ∧ (∀ q, In res q ↔ passAt κ l s q = true) := by
  have hm1 : ∀ x ∈ [s], x.f0 ∈ ps ∧ x.f1 ∈ ps := fun x hx => by simp at hx; subst hx; exact hms
  have pf : pass κ false false = false := by rcases hκ with rfl | rfl | rfl | rfl <;> rfl
  induction rest with
  | nil =>
    intro pre a out hp ho hok hta hq
    refine ⟨out, ?_, hok, fun q => ?_⟩
    · refine ev_succ ?_; simp only [spec_l2Build.l0]
      have hlen : ps.length = pre.length + 1 := by rw [hp]; simp
      refine ev_neg ?_ (Ev.now _)
      rw [w64_in (by omega) (by omega)]; omega
    · by_cases c : q < a
      · exact hq q c
      · have last : ∀ y ∈ ps, y ≤ a := by
          intro y hy
          rw [hp] at hy hs
          rcases List.mem_append.1 hy with hy | hy
          · rw [List.pairwise_append] at hs; exact Int.le_of_lt (hs.2.2 y hy a (by simp))
          · simp at hy; omega
        have n1 : ¬ In l q := by rintro ⟨x, hx, g1, g2⟩; have := last _ (hm x hx).2; omega
        have n2 : ¬ In [s] q := by rintro ⟨x, hx, g1, g2⟩; have := last _ (hm1 x hx).2; omega
        constructor
        · intro g; have := top_gt hok g; omega
        · intro g; simp [passAt, n1, n2, pf] at g
  | cons b rest ih =>
    intro pre a out hp ho hok hta hq
    have hlen : ps.length = pre.length + (rest.length + 2) := by rw [hp]; simp
    have hp' : ps = (pre ++ [a]) ++ b :: rest := by rw [hp]; simp
    have hab : a < b := by
      rw [hp, List.pairwise_append] at hs
      have := hs.2.1
      rw [List.pairwise_cons] at this
      exact this.1 b (by simp)
    have ha : 0 ≤ a := hpos a (by rw [hp]; simp)
    have ra : rd ps (pre.length : Int) = a := by rw [hp]; exact rd_mid pre (b :: rest) a
    have st : ∀ q, a ≤ q → q < b → passAt κ l s q = passAt κ l s a := by
      intro q g1 g2
      have i1 := same_stretch hp hs hm g1 g2
      have i2 := same_stretch hp hs hm1 g1 g2
      simp only [passAt, i1, i2]
    have e1 : wrap64 ((pre.length : Int) + 1) = (pre.length : Int) + 1 := w64_in (by omega) (by omega)
    cases hc : passAt κ l s a with
    | true =>
      suffices H : ∃ res, Ev (fun k => spec_l2Build.j1 k l κ ps [s] out (pre.length : Int) true) res ∧ okF (-1) res ∧ (∀ q, In res q ↔ passAt κ l s q = true) by
        obtain ⟨res, e, r1, r2⟩ := H
        refine ⟨res, build_step κ hκ l ps [s] out _ res (by omega) (by omega) (by omega) hll (by simp) ?_, r1, r2⟩
        rw [ra]
        have : pass κ (decide (In l a)) (decide (In [s] a)) = true := hc
        rw [this]; exact e
      -- the new list is told by its offsets
      have key : ∀ out' : List Span, out'.length ≤ pre.length + 1 → okF (-1) out' → top (-1) out' = b → (∀ q, In out' q ↔ In out q ∨ (a ≤ q ∧ q < b)) →
          ∃ res, Ev (fun k => spec_l2Build.l0 k l κ ps [s] out' ((pre ++ [a]).length : Int)) res ∧ okF (-1) res ∧ (∀ q, In res q ↔ passAt κ l s q = true) := by
        intro out' l1 l2 l3 l4
        refine ih (pre ++ [a]) b out' hp' (by simpa using l1) l2 (by omega) (fun q g => ?_)
        rw [l4]
        by_cases w : q < a
        · rw [hq q w]; constructor
          · rintro (g | g)
            · exact g
            · omega
          · exact .inl
        · constructor
          · intro _; rw [st q (by omega) g]; exact hc
          · intro _; exact .inr ⟨by omega, g⟩
      -- which of the two lists it is
      by_cases d : top (-1) out = a ∧ out ≠ []
      · obtain rfl | ⟨o, z, rfl⟩ := List.eq_nil_or_concat out
        · exact absurd rfl d.2
        · rw [List.concat_eq_append] at *
          have hk := okF_snoc.1 hok
          have dz : z.f1 = a := by rw [← d.1, top_snoc]
          have hin : ∀ q, In (o ++ [(⟨z.f0, b⟩ : Span)]) q ↔ In (o ++ [z]) q ∨ (a ≤ q ∧ q < b) := by
            intro q
            rw [In_append, In_append, In_one, In_one]
            constructor
            · rintro (g | g)
              · exact .inl (.inl g)
              · by_cases w : q < a
                · exact .inl (.inr ⟨g.1, by omega⟩)
                · exact .inr ⟨by omega, g.2⟩
            · rintro ((g | g) | g)
              · exact .inl g
              · exact .inr ⟨g.1, by show q < b; omega⟩
              · exact .inr ⟨by show z.f0 ≤ q; omega, g.2⟩
          obtain ⟨res, e, r1, r2⟩ := key (o ++ [(⟨z.f0, b⟩ : Span)]) (by simp at ho ⊢; omega) (okF_snoc.2 ⟨hk.1, hk.2.1, by show z.f0 < b; omega⟩) (top_snoc _ _ _) hin
          refine ⟨res, build_add κ l ps pre rest [s] _ a b res hp hn ho hok (fun out' m1 m2 m3 m4 => ?_) hta hab (by omega), r1, r2⟩
          have : out' = o ++ [(⟨z.f0, b⟩ : Span)] := canon m2 (okF_snoc.2 ⟨hk.1, hk.2.1, by show z.f0 < b; omega⟩) (fun q => by rw [m4, hin])
          rw [this]; exact e
      · have hlt : top (-1) out < a := by
          by_cases n : out = []
          · subst n; simp only [top]; omega
          · have : top (-1) out ≠ a := fun e => d ⟨e, n⟩
            omega
        have hin : ∀ q, In (out ++ [(⟨a, b⟩ : Span)]) q ↔ In out q ∨ (a ≤ q ∧ q < b) := fun q => by rw [In_append, In_one]
        obtain ⟨res, e, r1, r2⟩ := key (out ++ [(⟨a, b⟩ : Span)]) (by simp; omega) (okF_snoc.2 ⟨hok, hlt, hab⟩) (top_snoc _ _ _) hin
        refine ⟨res, build_add κ l ps pre rest [s] _ a b res hp hn ho hok (fun out' m1 m2 m3 m4 => ?_) hta hab (by omega), r1, r2⟩
        have : out' = out ++ [(⟨a, b⟩ : Span)] := canon m2 (okF_snoc.2 ⟨hok, hlt, hab⟩) (fun q => by rw [m4, hin])
        rw [this]; exact e
    | false =>
      obtain ⟨res, e, r1, r2⟩ := ih (pre ++ [a]) b out hp' (by simp; omega) hok (by omega) (fun q g => by
        by_cases w : q < a
        · exact hq q w
        · rw [st q (by omega) g, hc]; constructor
          · intro g'; have := top_gt hok g'; omega
          · intro g'; cases g')
      refine ⟨res, build_step κ hκ l ps [s] out _ res (by omega) (by omega) (by omega) hll (by simp) ?_, r1, r2⟩
      rw [ra]
      have : pass κ (decide (In l a)) (decide (In [s] a)) = false := hc
      rw [this]
      refine ev_succ ?_; simp only [spec_l2Build.j1]
      refine ev_neg (by simp) ?_
      have en : (((pre ++ [a]).length : Nat) : Int) = (pre.length : Int) + 1 := by simp
      rw [e1, ← en]; exact e

theorem build_is (κ : Int) (hκ : κ = 1 ∨ κ = 2 ∨ κ = 3 ∨ κ = 4) (l : List Span) (a b : Int) (hl : l.length ≤ 1000) (hpos : ∀ x ∈ l, 0 ≤ x.f0 ∧ 0 ≤ x.f1) (hab : 0 ≤ a ∧ 0 ≤ b) :
    ∃ res, Ev (fun k => spec_l2Build.f k l a b κ) res ∧ okF (-1) res ∧ (∀ q, In res q ↔ passAt κ l (⟨a, b⟩ : Span) q = true) := by
  have hmem : ∀ y, y ∈ pointsOf l (⟨a, b⟩ : Span) ↔ y = a ∨ y = b ∨ y ∈ ends l := by
    intro y; unfold pointsOf; rw [mem_pts]; simp
  have hends : ∀ y ∈ ends l, 0 ≤ y := by
    have : ∀ m : List Span, (∀ x ∈ m, 0 ≤ x.f0 ∧ 0 ≤ x.f1) → ∀ y ∈ ends m, 0 ≤ y := by
      intro m
      induction m with
      | nil => intro _ y hy; simp [ends] at hy
      | cons x t ih =>
        intro h y hy
        simp only [ends, List.mem_cons] at hy
        have hx := h x (by simp)
        rcases hy with rfl | rfl | hy
        · exact hx.1
        · exact hx.2
        · exact ih (fun z hz => h z (by simp [hz])) y hy
    exact this l hpos
  have hsorted : (pointsOf l (⟨a, b⟩ : Span)).Pairwise (· < ·) := pts_sorted _ [] List.Pairwise.nil
  have hlen : (pointsOf l (⟨a, b⟩ : Span)).length ≤ 100000 := by
    have h1 := pts_length ([a, b] ++ ends l) []
    have h2 := ends_length l
    unfold pointsOf
    simp only [List.length_append, List.length_cons, List.length_nil, h2] at h1
    simp only [] at *
    omega
  obtain ⟨p0, rest, hp⟩ : ∃ p0 rest, pointsOf l (⟨a, b⟩ : Span) = p0 :: rest := by
    cases h : pointsOf l (⟨a, b⟩ : Span) with
    | nil => have := (hmem a).2 (.inl rfl); rw [h] at this; simp at this
    | cons p0 rest => exact ⟨p0, rest, rfl⟩
  have first : ∀ y ∈ pointsOf l (⟨a, b⟩ : Span), p0 ≤ y := by
    intro y hy
    rw [hp] at hy hsorted
    rcases List.mem_cons.1 hy with rfl | hy
    · exact Int.le_refl _
    · exact Int.le_of_lt ((List.pairwise_cons.1 hsorted).1 y hy)
  have hm : ∀ x ∈ l, x.f0 ∈ pointsOf l (⟨a, b⟩ : Span) ∧ x.f1 ∈ pointsOf l (⟨a, b⟩ : Span) := fun x hx => ⟨(hmem _).2 (.inr (.inr (mem_ends hx).1)), (hmem _).2 (.inr (.inr (mem_ends hx).2))⟩
  have pf : pass κ false false = false := by rcases hκ with rfl | rfl | rfl | rfl <;> rfl
  obtain ⟨res, e, r1, r2⟩ := build_loop κ hκ l (⟨a, b⟩ : Span) _ hlen (by omega) hsorted hm ⟨(hmem _).2 (.inl rfl), (hmem _).2 (.inr (.inl rfl))⟩ (fun y hy => by
      rcases (hmem y).1 hy with rfl | rfl | hy
      · exact hab.1
      · exact hab.2
      · exact hends y hy) rest [] p0 [] (by simpa using hp) (by simp) trivial (by
        have := (hmem p0).1 (by rw [hp]; simp)
        simp only [top]
        rcases this with h | h | h
        · omega
        · omega
        · have := hends p0 h; omega) (fun q hq => by
        have n1 : ¬ In l q := by rintro ⟨x, hx, g1, g2⟩; have := first _ (hm x hx).1; omega
        have n2 : ¬ In [(⟨a, b⟩ : Span)] q := by rw [In_one]; rintro ⟨g1, g2⟩; have := first a ((hmem a).2 (.inl rfl)); simp only [] at g1; omega
        simp [passAt, n1, n2, pf, In_nil])
  refine ⟨res, ?_, r1, r2⟩
  unfold spec_l2Build.f
  exact ev_bind (points_is l a b hl) (by simpa using e)
/-! ### the law's own helpers at spans -/
def toI (x : LSpan) : Span := ⟨x.f0, x.f1⟩
theorem toSpanS_loop (xs : List LSpan) : ∀ (pre : List LSpan) (ys : List Span), ys.length = xs.length → (pre ++ xs).length ≤ 1048576 →
    Ev (fun k => laws_toSpanS.l0 k (pre ++ xs) (pre.map toI ++ ys) (pre.length : Int)) ((pre ++ xs).map toI) := by
  induction xs with
  | nil =>
    intro pre ys hy hl
    obtain rfl : ys = [] := List.eq_nil_of_length_eq_zero hy
    refine ev_succ ?_; simp only [laws_toSpanS.l0]; exact ev_neg (by simp) (ev_eq (Ev.now _) (by simp))
  | cons s t ih =>
    intro pre ys hy hl
    obtain ⟨u, us, rfl⟩ : ∃ u us, ys = u :: us := by cases ys with | nil => simp at hy | cons u us => exact ⟨u, us, rfl⟩
    simp only [List.length_append, List.length_cons] at hl hy
    have hs : rd_T25 (pre ++ s :: t) (pre.length : Int) = s := by simp [rd_T25]
    refine ev_succ ?_
    simp only [laws_toSpanS.l0, laws_toSpan.f]
    refine ev_pos (by simp; omega) (ev_pos (by omega) (ev_some (ev_pos (by simp; omega) ?_)))
    rw [hs, next_at pre s (by omega), snoc_cons pre t s]
    have e : (pre.map toI ++ u :: us).set (pre.length : Int).toNat (⟨s.f0, s.f1⟩ : Span) = (pre ++ [s]).map toI ++ us := by
      have := set_mid (pre.map toI) us u (toI s)
      rw [List.length_map] at this
      rw [show (⟨s.f0, s.f1⟩ : Span) = toI s from rfl, this]; simp
    rw [e]
    exact ih (pre ++ [s]) us (by omega) (by simp; omega)
theorem toSpanS_is (l : List LSpan) (hl : l.length ≤ 1048576) : Ev (fun k => laws_toSpanS.f k l) (l.map toI) := by
  unfold laws_toSpanS.f
  refine ev_pos (by omega) (ev_pos (by omega) ?_)
  exact toSpanS_loop l [] _ (by simp) (by simpa using hl)
theorem eqSpanS_loop (xs : List Span) : ∀ pre : List Span, (pre ++ xs).length ≤ 4611686018427387904 → Ev (fun k => laws_eqSpanS.l0 k (pre ++ xs) (pre ++ xs) (pre.length : Int)) true := by
  induction xs with
  | nil => intro pre hl; refine ev_succ ?_; simp only [laws_eqSpanS.l0]; exact ev_neg (by simp) (Ev.now _)
  | cons s t ih =>
    intro pre hl
    simp only [List.length_append, List.length_cons] at hl
    refine ev_succ ?_
    simp only [laws_eqSpanS.l0]
    refine ev_pos (by simp; omega) (ev_pos (by omega) (ev_pos (by simp; omega) ?_))
    refine ev_bind (a := true) (by simp only [laws_eqSpan.f]; exact Ev.now _) ?_
    refine ev_pos (by trivial) ?_
    rw [next_at pre s (by omega), snoc_cons pre t s]
    exact ih (pre ++ [s]) (by simp; omega)
theorem eqSpanS_refl (l : List Span) (hl : l.length ≤ 4611686018427387904) : Ev (fun k => laws_eqSpanS.f k l l) true := by
  unfold laws_eqSpanS.f
  refine ev_pos (by trivial) ?_
  exact eqSpanS_loop l [] (by simpa using hl)
theorem szSpanS_is (l : List LSpan) (h : l.length ≤ maxLen) : laws_szSpanS.f l 1048576 = some (if l.length ≤ 1048576 then 1048576 - (l.length : Int) else -1) := by
  unfold maxLen at h
  unfold laws_szSpanS.f
  rw [w64_in (n := 1048576 - (l.length : Int)) (by omega) (by omega)]
  by_cases c : l.length ≤ 1048576
  · rw [if_neg (by omega), if_pos c]
  · rw [if_pos (by omega), if_neg c]
theorem markSpan (xs : List Span) : ∀ (pre : List Span) (m : Int), (pre ++ xs).length ≤ 1048576 → 1 ≤ m → m + 2 * xs.length ≤ 1000000000 →
    ∃ ys, ys.length = xs.length ∧ Ev (fun k => laws_markSpanS.l0 k (pre ++ xs) m (pre.length : Int)) (m + 2 * xs.length, pre ++ ys) ∧
      ∀ pre' : List Span, pre'.length = pre.length → Ev (fun k => laws_heldSpanS.l0 k (pre' ++ ys) m (pre'.length : Int)) (m + 2 * xs.length) := by
  induction xs with
  | nil =>
    intro pre m hl hm hb
    refine ⟨[], rfl, ?_, fun pre' hp => ?_⟩
    · refine ev_succ ?_; simp only [laws_markSpanS.l0]; exact ev_neg (by simp) (ev_eq (Ev.now _) (by simp))
    · refine ev_succ ?_; simp only [laws_heldSpanS.l0]; exact ev_neg (by simp) (ev_eq (Ev.now _) (by simp))
  | cons s t ih =>
    intro pre m hl hm hb
    simp only [List.length_append, List.length_cons] at hl hb
    have e1 : wrap64 (m + 1) = m + 1 := w64_in (by omega) (by omega)
    have e2 : wrap64 (m + 1 + 1) = m + 2 := by rw [w64_in (n := m + 1 + 1) (by omega) (by omega)]; omega
    have u0 : IntKind.u64.wrap m = m := u64_in (by omega) (by omega)
    have u1 : IntKind.u64.wrap (m + 1) = m + 1 := u64_in (by omega) (by omega)
    obtain ⟨ys, hy, h1, h2⟩ := ih (pre ++ [(⟨m, m + 1⟩ : Span)]) (m + 2) (by simp; omega) (by omega) (by omega)
    refine ⟨⟨m, m + 1⟩ :: ys, by simp [hy], ?_, fun pre' hp => ?_⟩
    · refine ev_succ ?_
      simp only [laws_markSpanS.l0]
      refine ev_pos (by simp; omega) (ev_pos (by omega) (ev_some ?_))
      simp only [rd_T31, getD_mid, set_mid, e1, e2, u0, u1]
      rw [next_at pre (⟨m, m + 1⟩ : Span) (by omega), snoc_cons pre t (⟨m, m + 1⟩ : Span)]
      refine ev_eq h1 ?_
      simp only [List.length_cons, List.append_assoc, List.singleton_append, Prod.mk.injEq, and_true]; omega
    · refine ev_succ ?_
      simp only [laws_heldSpanS.l0]
      refine ev_pos (by simp; omega) (ev_pos (by omega) ?_)
      simp only [rd_T31, getD_mid, e1, e2, u0, u1]
      rw [next_at pre' (⟨m, m + 1⟩ : Span) (by omega), snoc_cons pre' ys]
      refine ev_pos (by trivial) (ev_pos (by trivial) ?_)
      refine ev_eq (h2 (pre' ++ [(⟨m, m + 1⟩ : Span)]) (by simp [hp])) ?_
      simp only [List.length_cons]; omega
theorem markSpanS_is (l : List Span) (hl : l.length ≤ 1048576) : ∃ ys, Ev (fun k => laws_markSpanS.f k l 1) (1 + 2 * l.length, ys) ∧ Ev (fun k => laws_heldSpanS.f k ys 1) (1 + 2 * l.length) := by
  obtain ⟨ys, _, h1, h2⟩ := markSpan l [] 1 (by simpa using hl) (by omega) (by omega)
  exact ⟨ys, by simpa only [laws_markSpanS.f, List.nil_append, List.length_nil, nat0] using h1, by simpa only [laws_heldSpanS.f, List.nil_append, List.length_nil, nat0] using h2 [] rfl⟩
theorem validSpans_loop (xs : List Span) : ∀ pre : List Span, (pre ++ xs).length ≤ 1000 → (∀ x ∈ xs, 0 ≤ x.f0) →
    Ev (fun k => impl_validSpans.l0 k (pre ++ xs) (pre ++ xs) ((pre ++ xs).length : Int) (pre.length : Int)) (decide (okF (top (-1) pre) xs)) := by
  induction xs with
  | nil => intro pre hl _; refine ev_succ ?_; simp only [impl_validSpans.l0]; exact ev_neg (by simp) (ev_eq (Ev.now _) rfl)
  | cons x t ih =>
    intro pre hl hx
    have hx0 := hx x (by simp)
    simp only [List.length_append, List.length_cons] at hl
    refine ev_succ ?_; simp only [impl_validSpans.l0]
    refine ev_pos (by simp; omega) (ev_pos (by omega) (ev_pos (by simp; omega) ?_))
    simp only [rdT_mid]
    have go : top (-1) pre < x.f0 → x.f0 < x.f1 → Ev (fun k => impl_validSpans.l0 k (pre ++ x :: t) (pre ++ x :: t) ((pre ++ x :: t).length : Int) (wrap64 ((pre.length : Int) + 1))) (decide (okF (top (-1) pre) (x :: t))) := by
      intro h1 h2
      rw [next_at pre x (by omega), snoc_cons pre t x]
      refine ev_eq (ih (pre ++ [x]) (by simp; omega) (fun y hy => hx y (by simp [hy]))) ?_
      rw [top_snoc]
      simp [okF, h1, h2]
    by_cases c : x.f0 ≥ x.f1
    · refine ev_pos c (ev_eq (Ev.now _) ?_)
      rw [eq_comm, decide_eq_false_iff_not]; rintro ⟨_, h, _⟩; omega
    · refine ev_neg c ?_
      by_cases p : pre = []
      · subst p
        exact ev_neg (by simp) (go (by simp [top]; omega) (by omega))
      · have hp : 0 < pre.length := List.length_pos_iff.2 p
        refine ev_pos (by omega) ?_
        have e : wrap64 ((pre.length : Int) - 1) = (pre.length : Int) - 1 := w64_in (by omega) (by omega)
        refine ev_pos (by omega) (ev_pos (by simp; omega) ?_)
        rw [rdT_last pre (x :: t) (-1) p (by omega)]
        by_cases d : x.f0 ≤ top (-1) pre
        · refine ev_pos d (ev_eq (Ev.now _) ?_)
          rw [eq_comm, decide_eq_false_iff_not]; rintro ⟨h, _, _⟩; omega
        · exact ev_neg d (go (by omega) (by omega))
theorem validSpans_is (l : List Span) (a b : Int) (hx : ∀ x ∈ l, 0 ≤ x.f0) : Ev (fun k => impl_validSpans.f k l a b) (setok l && decide (a ≤ b)) := by
  unfold impl_validSpans.f
  by_cases c : (l.length : Int) > 1000
  · refine ev_pos c (ev_succ ?_); simp only [impl_validSpans.j0]
    refine ev_pos (by trivial) (ev_eq (Ev.now _) ?_)
    have : setok l = false := by unfold setok; rw [decide_eq_false_iff_not]; rintro ⟨h, _⟩; omega
    simp [this]
  · refine ev_neg c (ev_succ ?_); simp only [impl_validSpans.j0]
    by_cases d : a > b
    · refine ev_pos (by simpa using d) (ev_eq (Ev.now _) ?_)
      have : decide (a ≤ b) = false := by rw [decide_eq_false_iff_not]; omega
      simp [this]
    · refine ev_neg (by simpa using d) (ev_eq (validSpans_loop l [] (by simp; omega) hx) ?_)
      have e : decide (a ≤ b) = true := by rw [decide_eq_true_iff]; omega
      rw [e, Bool.and_true]; unfold setok
      rw [decide_eq_decide]; simp only [top]; constructor
      · intro h; exact ⟨by omega, h⟩
      · exact fun h => h.2
theorem setok_len {l : List Span} (h : setok l = true) : l.length ≤ 1000 ∧ okF (-1) l := by unfold setok at h; exact of_decide_eq_true h
theorem valid_good (l : List Span) (a b : Int) (hx : ∀ x ∈ l, 0 ≤ x.f0) (hs : setok l = true) (hab : a ≤ b) : Ev (fun k => impl_validSpans.f k l a b) true := ev_eq (validSpans_is l a b hx) (by simp [hs, hab])
theorem valid_bad (l : List Span) (a b : Int) (hx : ∀ x ∈ l, 0 ≤ x.f0) (h : ¬ (setok l = true ∧ a ≤ b)) : Ev (fun k => impl_validSpans.f k l a b) false := ev_eq (validSpans_is l a b hx) (by
  cases hs : setok l with
  | false => rfl
  | true =>
    have : ¬ a ≤ b := fun c => h ⟨hs, c⟩
    simp [this])
theorem do_good (κ : Int) (l res : List Span) (a b : Int) (hs : setok l = true) (hab : a ≤ b) (hp0 : ∀ x ∈ l, 0 ≤ x.f0) (e : Ev (fun k => spec_l2Build.f k l a b κ) res) :
    Ev (fun k => spec_l2Do.f k l a b κ) (if (res.length : Int) > 1000 then ([], 5) else (res, 0)) := by
  unfold spec_l2Do.f
  refine ev_bind (a := true) (hs ▸ setOK_is l hp0) ?_
  refine ev_pos (by trivial) (ev_succ ?_); simp only [spec_l2Do.j0]
  refine ev_neg (by simpa using hab) (ev_bind e ?_)
  by_cases w : (res.length : Int) > 1000
  · exact ev_pos w (ev_eq (Ev.now _) (by rw [if_pos w]))
  · exact ev_neg w (ev_eq (Ev.now _) (by rw [if_neg w]))
theorem do_bad (κ : Int) (l : List Span) (a b : Int) (hp0 : ∀ x ∈ l, 0 ≤ x.f0) (h : ¬ (setok l = true ∧ a ≤ b)) : Ev (fun k => spec_l2Do.f k l a b κ) ([], 1) := by
  unfold spec_l2Do.f
  cases hs : setok l with
  | false =>
    refine ev_bind (a := false) (hs ▸ setOK_is l hp0) ?_
    refine ev_neg (by simp) (ev_succ ?_); simp only [spec_l2Do.j0]
    exact ev_pos (by trivial) (Ev.now _)
  | true =>
    refine ev_bind (a := true) (hs ▸ setOK_is l hp0) ?_
    refine ev_pos (by trivial) (ev_succ ?_); simp only [spec_l2Do.j0]
    have : a > b := by rcases Int.lt_or_le b a with c | c; exact c; exact absurd ⟨hs, c⟩ h
    exact ev_pos (by simpa using this) (Ev.now _)
theorem lim (R : List Span) : impl_limited.f R = some (if (R.length : Int) > 1000 then ([], 5) else (R, 0)) := by
  unfold impl_limited.f; split <;> rfl

theorem okF_mem {b : Int} {l : List Span} (h : okF b l) : ∀ z ∈ l, b < z.f1 := by
  induction l generalizing b with
  | nil => intro z hz; simp at hz
  | cons x t ih =>
    obtain ⟨h1, h2, h3⟩ := h
    intro z hz
    rcases List.mem_cons.1 hz with rfl | hz
    · omega
    · have := ih h3 z hz; omega
theorem parts (a : Int) (l : List Span) : ∀ {b : Int}, okF b l → ∃ p s, l = p ++ s ∧ (∀ z ∈ p, z.f1 < a) ∧ (∀ z ∈ s, a ≤ z.f1) := by
  induction l with
  | nil => intro b _; exact ⟨[], [], rfl, by simp, by simp⟩
  | cons x t ih =>
    intro b h
    by_cases c : x.f1 < a
    · obtain ⟨p, s, e, h1, h2⟩ := ih h.2.2
      refine ⟨x :: p, s, by rw [e]; rfl, fun z hz => ?_, h2⟩
      rcases List.mem_cons.1 hz with rfl | hz
      · exact c
      · exact h1 z hz
    · refine ⟨[], x :: t, rfl, by simp, fun z hz => ?_⟩
      rcases List.mem_cons.1 hz with rfl | hz
      · omega
      · have := okF_mem h.2.2 z hz; omega
theorem top_lt {a : Int} (l : List Span) : ∀ {b : Int}, b < a → (∀ z ∈ l, z.f1 < a) → top b l < a := by
  induction l with
  | nil => intro b h _; exact h
  | cons x t ih => intro b _ h; exact ih (h x (by simp)) (fun z hz => h z (by simp [hz]))
theorem place_loop (l : List Span) (kk c : Int) (hl : (l.length : Int) ≤ 1000) (hk : ∀ i : Int, 0 ≤ i → i < (l.length : Int) → ((rd_T31 l i).f1 < kk ↔ i < c)) (n : Nat) :
    ∀ lo hi : Int, 0 ≤ lo → lo ≤ c → c ≤ hi → hi ≤ (l.length : Int) → hi - lo ≤ n → Ev (fun k => impl_Span_uint64.l0 k l kk lo hi) c := by
  induction n with
  | zero =>
    intro lo hi h0 h1 h2 h3 hn
    refine ev_succ ?_; simp only [impl_Span_uint64.l0]
    exact ev_neg (by omega) (ev_eq (Ev.now _) (by omega))
  | succ n ih =>
    intro lo hi h0 h1 h2 h3 hn
    refine ev_succ ?_; simp only [impl_Span_uint64.l0]
    by_cases lt : lo < hi
    · refine ev_pos lt ?_
      have em : wrap64 (Int.tdiv (wrap64 (lo + hi)) 2) = (lo + hi) / 2 := by
        rw [w64_in (n := lo + hi) (by omega) (by omega), Int.tdiv_eq_ediv_of_nonneg (by omega), w64_in (by omega) (by omega)]
      simp only [em, impl_spanHi.f, Option.bind_some]
      have e2 := hk ((lo + hi) / 2) (by omega) (by omega)
      refine ev_pos (by omega) (ev_pos (by omega) ?_)
      by_cases q : (rd_T31 l ((lo + hi) / 2)).f1 < kk
      · refine ev_pos q ?_
        rw [w64_in (n := (lo + hi) / 2 + 1) (by omega) (by omega)]
        have := e2.1 q
        exact ih _ _ (by omega) (by omega) h2 h3 (by omega)
      · refine ev_neg q ?_
        have : ¬ (lo + hi) / 2 < c := fun g => q (e2.2 g)
        exact ih _ _ h0 h1 (by omega) (by omega) (by omega)
    · exact ev_neg lt (ev_eq (Ev.now _) (by omega))
theorem add_loop (out R : List Span) (ho : out.length ≤ 1000) (hR : okF (-1) R) (hok : okF (-1) out) (xs : List Span) : ∀ (pre : List Span) (a b : Int), (pre ++ xs).length ≤ 1000 → okF (top (-1) out) xs → top (-1) out < a → a < b → (∀ z ∈ xs, a ≤ z.f1) →
    (∀ q, In R q ↔ In out q ∨ (a ≤ q ∧ q < b) ∨ In xs q) →
    Ev (fun k => impl_add.l0 k (pre ++ xs) (pre.length : Int) out a b) R := by
  have fin : ∀ (xs : List Span) (a b : Int), okF b xs → top (-1) out < a → a < b → (∀ q, In R q ↔ In out q ∨ (a ≤ q ∧ q < b) ∨ In xs q) → (out ++ [(⟨a, b⟩ : Span)]) ++ xs = R := by
    intro xs a b h1 h2 h3 h4
    refine canon (b := -1) (b' := -1) ?_ hR (fun q => ?_)
    · rw [okF_append]
      exact ⟨okF_snoc.2 ⟨hok, h2, h3⟩, by rw [top_snoc]; exact h1⟩
    · rw [h4, In_append, In_append, In_one]; exact or_assoc
  induction xs with
  | nil =>
    intro pre a b hl hx ht hab hz hq
    simp only [List.append_nil] at hl
    refine ev_succ ?_; simp only [impl_add.l0]
    refine ev_neg (by simp) (ev_pos (by omega) (ev_some (ev_pos (by omega) (ev_pos (by simp) (ev_some (ev_pos (by simp; omega) (ev_eq (Ev.now _) ?_)))))))
    have := fin [] a b trivial ht hab hq
    simpa using this
  | cons x t ih =>
    intro pre a b hl hx ht hab hz hq
    have hl' := hl
    simp only [List.length_append, List.length_cons] at hl
    obtain ⟨x1, x2, x3⟩ := hx
    have hz0 := hz x (by simp)
    refine ev_succ ?_; simp only [impl_add.l0]
    refine ev_pos (by simp; omega) (ev_pos (by omega) ?_)
    simp only [rdT_mid]
    by_cases c : x.f0 ≤ b
    · refine ev_pos c ?_
      have e1 : mn a x.f0 = if a ≤ x.f0 then a else x.f0 := by unfold mn; split <;> split <;> omega
      have e2 : mx b x.f1 = if b ≤ x.f1 then x.f1 else b := by unfold mx; split <;> split <;> omega
      rw [next_at pre x (by omega), snoc_cons pre t x]
      refine ih (pre ++ [x]) _ _ (by simp; omega) (okF_mono (by omega) x3) (by rw [e1]; split <;> omega) (by rw [e1, e2]; split <;> split <;> omega) (fun z hz' => ?_) (fun q => ?_)
      · have := hz z (by simp [hz']); rw [e1]; split <;> omega
      · rw [hq, In_cons]
        have : (mn a x.f0 ≤ q ∧ q < mx b x.f1) ↔ (a ≤ q ∧ q < b) ∨ (x.f0 ≤ q ∧ q < x.f1) := by
          rw [e1, e2]; split <;> split <;> omega
        rw [this, or_assoc]
    · refine ev_neg c (ev_pos (by omega) (ev_some (ev_pos (by simp; omega) (ev_some (ev_pos (by simp; omega) (ev_eq (Ev.now _) ?_))))))
      have := fin (x :: t) a b ⟨by omega, x2, x3⟩ ht hab hq
      simpa using this
theorem rdT_at (l : List Span) (j : Nat) (h : j < l.length) : rd_T31 l (j : Int) = l[j] := by simp [rd_T31, List.getD, h]

/-- What both answer. -/
theorem add_both (l : List Span) (a b : Int) (hpos : ∀ x ∈ l, 0 ≤ x.f0 ∧ 0 ≤ x.f1) (hab : 0 ≤ a ∧ 0 ≤ b) :
    ∃ R : List Span × Int, R.1.length ≤ 1000 ∧ Ev (fun k => spec_SpanAdd.f k l a b) R ∧ Ev (fun k => impl_SpanAdd.f k l a b) R := by
  have hp0 : ∀ x ∈ l, 0 ≤ x.f0 := fun x hx => (hpos x hx).1
  unfold spec_SpanAdd.f impl_SpanAdd.f
  by_cases h : setok l = true ∧ a ≤ b
  · obtain ⟨hlen, hok⟩ := setok_len h.1
    obtain ⟨res, e, r1, r2⟩ := build_is 1 (by simp) l a b hlen hpos hab
    have hin : ∀ q, In res q ↔ In l q ∨ (a ≤ q ∧ q < b) := by
      intro q; rw [r2]; simp only [passAt, pass]; simp [In_one]
    refine ⟨if (res.length : Int) > 1000 then ([], 5) else (res, 0), by split <;> simp; omega, ev_bind (do_good 1 l res a b h.1 h.2 hp0 e) (Ev.now _), ?_⟩
    refine ev_bind (valid_good l a b hp0 h.1 h.2) (ev_pos (by trivial) ?_)
    have added : Ev (fun k => impl_add.f k l a b) res := by
      unfold impl_add.f
      by_cases z : a = b
      · refine ev_pos z (ev_pos (by simp; omega) (ev_eq (Ev.now _) ?_))
        exact canon (b := -1) (b' := -1) hok r1 (fun q => by
          rw [hin]; constructor
          · exact .inl
          · rintro (g | g)
            · exact g
            · omega)
      · refine ev_neg z ?_
        obtain ⟨p, s, rfl, h1, h2⟩ := parts a l hok
        have hl : (p ++ s).length = p.length + s.length := List.length_append
        have pl : Ev (fun k => impl_Span_uint64.f k (p ++ s) a) (p.length : Int) := by
          unfold impl_Span_uint64.f
          refine place_loop (p ++ s) a p.length (by omega) (fun i h0 hi => ?_) (p ++ s).length 0 _ (by omega) (by omega) (by omega) (by omega) (by omega)
          obtain ⟨j, rfl⟩ := Int.eq_ofNat_of_zero_le h0
          have hj : j < (p ++ s).length := by omega
          rw [rdT_at _ j hj]
          by_cases c : j < p.length
          · rw [List.getElem_append_left c]
            have := h1 _ (List.getElem_mem c)
            omega
          · rw [List.getElem_append_right (by omega)]
            have := h2 _ (List.getElem_mem (l := s) (n := j - p.length) (by omega))
            omega
        refine ev_bind pl (ev_pos (by omega) (ev_pos (by omega) (ev_some (ev_pos (by simp; omega) ?_))))
        rw [okF_append] at hok
        have := add_loop p res (by omega) r1 hok.1 s p a b (by simpa using hlen) hok.2 (top_lt p (by omega) h1) (by omega) h2 (fun q => by rw [hin, In_append, or_assoc, or_comm (a := In s q)])
        simpa using this
    refine ev_bind added ?_
    rw [lim]
    exact ev_some (Ev.now _)
  · refine ⟨([], 1), by simp, ev_bind (do_bad 1 l a b hp0 h) (Ev.now _), ?_⟩
    exact ev_bind (valid_bad l a b hp0 h) (ev_neg (by simp) (Ev.now _))

theorem FnExactSpanAdd : laws_FnExactSpanAdd.Pure := by
  intro l0 a b hlen hgood hs
  have b0 := bounds_u64 hs.1
  have b1 := bounds_u64 hs.2
  refine Ev.rounds ?_
  unfold laws_FnExactSpanAdd.f
  rw [szSpanS_is l0 hlen]
  refine ev_some ?_
  by_cases big : l0.length ≤ 1048576
  · rw [if_pos big]
    refine ev_neg (by omega) ?_
    have hpos : ∀ x ∈ l0.map toI, 0 ≤ x.f0 ∧ 0 ≤ x.f1 := by
      intro x hx
      obtain ⟨y, hy, rfl⟩ := List.mem_map.1 hx
      have := hgood y hy
      exact ⟨(bounds_u64 this.1).1, (bounds_u64 this.2).1⟩
    obtain ⟨R, hR, e1, e2⟩ := add_both (l0.map toI) a b hpos ⟨b0.1, b1.1⟩
    have hml : (l0.map toI).length ≤ 1048576 := by simpa using big
    simp only [laws_toSpan.f, Option.bind_some]
    refine ev_bind (toSpanS_is l0 big) (ev_bind e1 (ev_bind (toSpanS_is l0 big) (ev_bind e2 (ev_bind (eqSpanS_refl _ (by omega)) ?_))))
    refine ev_pos (by trivial) ?_
    rw [bne_self_eq_false]
    refine ev_succ ?_; simp only [laws_FnExactSpanAdd.j0]
    refine ev_neg (by decide) (ev_bind (toSpanS_is l0 big) (ev_bind (eqSpanS_refl _ (by omega)) (ev_pos (by trivial) ?_)))
    obtain ⟨ys, m1, _⟩ := markSpanS_is (l0.map toI) hml
    refine ev_bind m1 (ev_neg (by simp only; omega) (ev_bind (eqSpanS_refl _ (by omega)) (ev_pos (by trivial) ?_)))
    rw [bne_self_eq_false]
    refine ev_succ ?_; simp only [laws_FnExactSpanAdd.j1, laws_toSpan.f, Option.bind_some]
    obtain ⟨zs, n1, n2⟩ := markSpanS_is R.1 (by omega)
    refine ev_neg (by decide) (ev_bind n1 (ev_bind n2 (ev_neg (by omega) (ev_pos (by trivial) (ev_bind (toSpanS_is l0 big) (ev_bind e2 (ev_bind (eqSpanS_refl _ (by omega)) ?_)))))))
    exact ev_pos (by trivial) (ev_pos (by trivial) (Ev.now _))
  · rw [if_neg big]
    exact ev_pos (by omega) (Ev.now _)

end Go.Proofs.Ytakeenidhkhmiaa.Pure
