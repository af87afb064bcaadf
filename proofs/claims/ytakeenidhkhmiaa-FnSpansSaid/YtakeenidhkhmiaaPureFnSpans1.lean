/- Span sets: lists in rising order with gaps between; what cutting, adding and the gaps give. Conditions: none. -/
import Derived.Test.YtakeenidhkhmiaaPureFnSpans0
set_option linter.unusedSimpArgs false
set_option linter.unusedVariables false
namespace Go.AK
open Go
abbrev Span := S31
/-! ### Span sets: lists in rising order with gaps; two with the same offsets are one list -/
def In (l : List Span) (q : Int) : Prop := ∃ x ∈ l, x.f0 ≤ q ∧ q < x.f1
def okF : Int → List Span → Prop
  | _, [] => True
  | b, x :: t => b < x.f0 ∧ x.f0 < x.f1 ∧ okF x.f1 t
def top : Int → List Span → Int
  | b, [] => b
  | _, x :: t => top x.f1 t

theorem In_nil (q : Int) : ¬ In [] q := fun ⟨_, h, _⟩ => by simp at h
theorem In_cons (x : Span) (t : List Span) (q : Int) : In (x :: t) q ↔ (x.f0 ≤ q ∧ q < x.f1) ∨ In t q := by
  constructor
  · rintro ⟨y, hy, h⟩
    rcases List.mem_cons.1 hy with rfl | hy
    · exact .inl h
    · exact .inr ⟨y, hy, h⟩
  · rintro (h | ⟨y, hy, h⟩)
    · exact ⟨x, by simp, h⟩
    · exact ⟨y, by simp [hy], h⟩
theorem In_append (l m : List Span) (q : Int) : In (l ++ m) q ↔ In l q ∨ In m q := by
  constructor
  · rintro ⟨y, hy, h⟩
    rcases List.mem_append.1 hy with hy | hy
    · exact .inl ⟨y, hy, h⟩
    · exact .inr ⟨y, hy, h⟩
  · rintro (⟨y, hy, h⟩ | ⟨y, hy, h⟩)
    · exact ⟨y, by simp [hy], h⟩
    · exact ⟨y, by simp [hy], h⟩
theorem In_one (x : Span) (q : Int) : In [x] q ↔ x.f0 ≤ q ∧ q < x.f1 := by rw [In_cons]; simp [In_nil]
theorem okF_gt {b : Int} {l : List Span} (h : okF b l) {q : Int} (hq : In l q) : b < q := by
  induction l generalizing b with
  | nil => exact absurd hq (In_nil q)
  | cons x t ih =>
    obtain ⟨h1, h2, h3⟩ := h
    rcases (In_cons x t q).1 hq with h | h
    · omega
    · have := ih h3 h; omega
theorem okF_mono {b b' : Int} {l : List Span} (hb : b' ≤ b) (h : okF b l) : okF b' l := by
  cases l with
  | nil => trivial
  | cons x t => exact ⟨by have := h.1; omega, h.2⟩
theorem top_ge {b : Int} {l : List Span} (h : okF b l) : b ≤ top b l := by
  induction l generalizing b with
  | nil => exact Int.le_refl _
  | cons x t ih => obtain ⟨h1, h2, h3⟩ := h; have := ih h3; simp only [top]; omega
theorem top_gt {b : Int} {l : List Span} (h : okF b l) {q : Int} (hq : In l q) : q < top b l := by
  induction l generalizing b with
  | nil => exact absurd hq (In_nil q)
  | cons x t ih =>
    obtain ⟨h1, h2, h3⟩ := h
    simp only [top]
    rcases (In_cons x t q).1 hq with h | h
    · have := top_ge h3; omega
    · exact ih h3 h
theorem top_snoc (b : Int) (l : List Span) (x : Span) : top b (l ++ [x]) = x.f1 := by
  induction l generalizing b with
  | nil => rfl
  | cons y t ih => exact ih _
theorem okF_snoc {b : Int} {l : List Span} {x : Span} : okF b (l ++ [x]) ↔ okF b l ∧ top b l < x.f0 ∧ x.f0 < x.f1 := by
  induction l generalizing b with
  | nil => simp [okF, top]
  | cons y t ih => simp only [List.cons_append, okF, top, ih]; constructor <;> (intro h; simp only [h, and_self])
theorem okF_append {b : Int} {l m : List Span} : okF b (l ++ m) ↔ okF b l ∧ okF (top b l) m := by
  induction l generalizing b with
  | nil => simp [okF, top]
  | cons y t ih => simp only [List.cons_append, okF, top, ih]; constructor <;> (intro h; simp only [h, and_self])
theorem top_append (b : Int) (l m : List Span) : top b (l ++ m) = top (top b l) m := by
  induction l generalizing b with
  | nil => rfl
  | cons y t ih => exact ih _
theorem span_ext {x y : Span} (h0 : x.f0 = y.f0) (h1 : x.f1 = y.f1) : x = y := by cases x; cases y; simp_all
theorem canon {b b' : Int} {l l' : List Span} (h : okF b l) (h' : okF b' l') (hq : ∀ q, In l q ↔ In l' q) : l = l' := by
  induction l generalizing b b' l' with
  | nil =>
    cases l' with
    | nil => rfl
    | cons y t => exact absurd ((hq y.f0).2 ((In_cons _ _ _).2 (.inl ⟨Int.le_refl _, h'.2.1⟩))) (In_nil _)
  | cons x t ih =>
    cases l' with
    | nil => exact absurd ((hq x.f0).1 ((In_cons _ _ _).2 (.inl ⟨Int.le_refl _, h.2.1⟩))) (In_nil _)
    | cons y t' =>
      obtain ⟨h1, h2, h3⟩ := h
      obtain ⟨g1, g2, g3⟩ := h'
      have e0 : x.f0 = y.f0 := by
        have a := (In_cons _ _ _).1 ((hq x.f0).1 ((In_cons _ _ _).2 (.inl ⟨Int.le_refl _, h2⟩)))
        have c := (In_cons _ _ _).1 ((hq y.f0).2 ((In_cons _ _ _).2 (.inl ⟨Int.le_refl _, g2⟩)))
        rcases a with a | a
        · rcases c with c | c
          · omega
          · have := okF_gt h3 c; omega
        · have := okF_gt g3 a
          rcases c with c | c
          · omega
          · have := okF_gt h3 c; omega
      have e1 : x.f1 = y.f1 := by
        rcases Int.lt_trichotomy x.f1 y.f1 with c | c | c
        · have a := (In_cons _ _ _).1 ((hq x.f1).2 ((In_cons _ _ _).2 (.inl ⟨by omega, c⟩)))
          rcases a with a | a
          · omega
          · have := okF_gt h3 a; omega
        · exact c
        · have a := (In_cons _ _ _).1 ((hq y.f1).1 ((In_cons _ _ _).2 (.inl ⟨by omega, c⟩)))
          rcases a with a | a
          · omega
          · have := okF_gt g3 a; omega
      rw [span_ext e0 e1]
      congr 1
      refine ih h3 (e1 ▸ g3) (fun q => ?_)
      constructor
      · intro hm
        have hg := okF_gt h3 hm
        rcases (In_cons _ _ _).1 ((hq q).1 ((In_cons _ _ _).2 (.inr hm))) with a | a
        · omega
        · exact a
      · intro hm
        have hg := okF_gt g3 hm
        rcases (In_cons _ _ _).1 ((hq q).2 ((In_cons _ _ _).2 (.inr hm))) with a | a
        · omega
        · exact a
instance decIn (l : List Span) (q : Int) : Decidable (In l q) := List.decidableBEx (fun x : Span => x.f0 ≤ q ∧ q < x.f1) l
instance decOkF : (b : Int) → (l : List Span) → Decidable (okF b l)
  | _, [] => isTrue trivial
  | _, x :: t => @instDecidableAnd _ _ _ (@instDecidableAnd _ _ _ (decOkF x.f1 t))
/-! ### what the program's functions give, as plain recursions -/
def cutP (a b : Int) (x : Span) : List Span := if a = b ∨ x.f1 ≤ a ∨ x.f0 ≥ b then [x] else (if x.f0 < a then [⟨x.f0, a⟩] else []) ++ (if x.f1 > b then [⟨b, x.f1⟩] else [])
def cutL (a b : Int) : List Span → List Span
  | [] => []
  | x :: t => cutP a b x ++ cutL a b t
theorem cutP_in (a b : Int) (hab : a ≤ b) (x : Span) (q : Int) : In (cutP a b x) q ↔ (x.f0 ≤ q ∧ q < x.f1) ∧ ¬ (a ≤ q ∧ q < b) := by
  unfold cutP
  split
  · rw [In_one]; constructor <;> omega
  · split <;> split <;> simp only [List.append_nil, List.nil_append, List.singleton_append, In_cons, In_nil, or_false] <;> constructor <;> intro h <;> first | exact h.elim | omega
theorem cutL_in (a b : Int) (hab : a ≤ b) (L : List Span) (q : Int) : In (cutL a b L) q ↔ In L q ∧ ¬ (a ≤ q ∧ q < b) := by
  induction L with
  | nil => simp [cutL, In_nil]
  | cons x t ih =>
    rw [cutL, In_append, cutP_in a b hab, ih, In_cons]
    constructor
    · rintro (h | h)
      · exact ⟨.inl h.1, h.2⟩
      · exact ⟨.inr h.1, h.2⟩
    · rintro ⟨h | h, n⟩
      · exact .inl ⟨h, n⟩
      · exact .inr ⟨h, n⟩
theorem cutP_ok (a b : Int) (hab : a ≤ b) (x : Span) {m : Int} (h1 : m < x.f0) (h2 : x.f0 < x.f1) : okF m (cutP a b x) ∧ top m (cutP a b x) ≤ x.f1 := by
  unfold cutP
  split
  · exact ⟨⟨h1, h2, trivial⟩, Int.le_refl _⟩
  · split <;> split <;> simp only [List.append_nil, List.nil_append, List.singleton_append, okF, top, and_true, true_and] <;> omega
theorem cutL_ok (a b : Int) (hab : a ≤ b) (L : List Span) : ∀ {m : Int}, okF m L → okF m (cutL a b L) := by
  induction L with
  | nil => intro m h; exact trivial
  | cons x t ih =>
    intro m h
    obtain ⟨h1, h2, h3⟩ := h
    have hp := cutP_ok a b hab x h1 h2
    rw [cutL, okF_append]
    exact ⟨hp.1, okF_mono hp.2 (ih h3)⟩
theorem cutL_far (a b : Int) (L : List Span) : ∀ {m : Int}, b ≤ m → okF m L → cutL a b L = L := by
  induction L with
  | nil => intro m _ h; rfl
  | cons x t ih =>
    intro m hm h
    obtain ⟨h1, h2, h3⟩ := h
    rw [cutL, ih (m := x.f1) (by omega) h3, cutP, if_pos (.inr (.inr (by omega)))]; rfl
theorem cutL_len (a b : Int) (L : List Span) : ∀ {m : Int}, okF m L → (cutL a b L).length ≤ L.length + 1 := by
  induction L with
  | nil => intro m h; simp [cutL]
  | cons x t ih =>
    intro m h
    obtain ⟨h1, h2, h3⟩ := h
    by_cases c : x.f1 > b
    · rw [cutL, cutL_far a b t (m := x.f1) (by omega) h3, cutP]
      split
      · simp
      · (repeat' split) <;> simp
    · have := ih h3
      have e : (cutP a b x).length ≤ 1 := by
        unfold cutP
        split
        · simp
        · (repeat' split) <;> simp
      rw [cutL, List.length_append, List.length_cons]; omega

def gapsL (b : Int) : Int → List Span → List Span
  | lo, [] => if lo < b then [⟨lo, b⟩] else []
  | lo, x :: t => if x.f1 ≤ lo ∨ x.f0 ≥ b then gapsL b lo t else (if lo < x.f0 then [⟨lo, x.f0⟩] else []) ++ gapsL b x.f1 t
theorem gapsL_in (b : Int) (L : List Span) (q : Int) : ∀ {m : Int} (lo : Int), okF m L → (In (gapsL b lo L) q ↔ lo ≤ q ∧ q < b ∧ ¬ In L q) := by
  induction L with
  | nil =>
    intro m lo _
    rw [gapsL]; split
    · rw [In_one]; simp [In_nil]
    · simp only [In_nil]; constructor <;> (intro h; first | exact h.elim | omega)
  | cons x t ih =>
    intro m lo h
    obtain ⟨h1, h2, h3⟩ := h
    rw [gapsL, In_cons]
    split
    · rw [ih lo h3]
      constructor
      · exact fun g => ⟨g.1, g.2.1, fun o => o.elim (fun o => by omega) g.2.2⟩
      · exact fun g => ⟨g.1, g.2.1, fun o => g.2.2 (.inr o)⟩
    · rw [In_append, ih x.f1 h3]
      constructor
      · rintro (g | g)
        · split at g
          · rw [In_one] at g; simp only [] at g
            exact ⟨g.1, by omega, fun o => o.elim (fun o => by omega) (fun o => by have := okF_gt h3 o; omega)⟩
          · exact (In_nil q g).elim
        · exact ⟨by omega, g.2.1, fun o => o.elim (fun o => by omega) g.2.2⟩
      · rintro ⟨g1, g2, g3⟩
        by_cases w : q < x.f0
        · left; rw [if_pos (by omega), In_one]; exact ⟨g1, w⟩
        · right
          refine ⟨?_, g2, fun o => g3 (.inr o)⟩
          rcases Int.lt_or_le q x.f1 with z | z
          · exact absurd (.inl ⟨by omega, z⟩) g3
          · exact z
theorem gapsL_ok (b : Int) (L : List Span) : ∀ {m m0 : Int} (lo : Int), okF m L → m0 < lo → okF m0 (gapsL b lo L) := by
  induction L with
  | nil =>
    intro m m0 lo _ h
    rw [gapsL]; split
    · rename_i c; exact ⟨h, c, trivial⟩
    · trivial
  | cons x t ih =>
    intro m m0 lo h hm
    obtain ⟨h1, h2, h3⟩ := h
    rw [gapsL]
    split
    · exact ih lo h3 hm
    · rename_i c
      split
      · rename_i d
        exact ⟨hm, d, ih x.f1 h3 h2⟩
      · exact ih x.f1 h3 (by omega)
theorem gapsL_len (b : Int) (L : List Span) : ∀ (lo : Int), (gapsL b lo L).length ≤ L.length + 1 := by
  induction L with
  | nil => intro lo; rw [gapsL]; split <;> simp
  | cons x t ih =>
    intro lo
    rw [gapsL]
    split
    · have := ih lo; simp only [List.length_cons]; omega
    · have := ih x.f1
      split <;> simp only [List.length_append, List.length_cons, List.length_nil] <;> omega
/-- All widths together. -/
def tot : List Span → Int
  | [] => 0
  | x :: t => (x.f1 - x.f0) + tot t
theorem tot_append (l m : List Span) : tot (l ++ m) = tot l + tot m := by
  induction l with
  | nil => simp [tot]
  | cons x t ih => simp only [List.cons_append, tot, ih]; omega
theorem tot_nonneg {l : List Span} : ∀ {m : Int}, okF m l → 0 ≤ tot l := by
  induction l with
  | nil => intro m _; exact Int.le_refl _
  | cons x t ih => intro m h; obtain ⟨h1, h2, h3⟩ := h; have := ih h3; simp only [tot]; omega
theorem tot_zero {l : List Span} {m : Int} (h : okF m l) : tot l = 0 ↔ l = [] := by
  constructor
  · cases l with
    | nil => intro _; rfl
    | cons x t => obtain ⟨h1, h2, h3⟩ := h; have := tot_nonneg h3; simp only [tot]; omega
  · rintro rfl; rfl
/-- What one span has of a stretch, and all of them. -/
def part (a b : Int) (x : Span) : Int := if (if a > x.f0 then a else x.f0) < (if b < x.f1 then b else x.f1) then (if b < x.f1 then b else x.f1) - (if a > x.f0 then a else x.f0) else 0
def sizeL (a b : Int) : List Span → Int
  | [] => 0
  | x :: t => part a b x + sizeL a b t
theorem part_rng (a b : Int) (x : Span) : 0 ≤ part a b x := by unfold part; split <;> omega
theorem sizeL_nonneg (a b : Int) (l : List Span) : 0 ≤ sizeL a b l := by
  induction l with
  | nil => exact Int.le_refl _
  | cons x t ih => have := part_rng a b x; simp only [sizeL]; omega
theorem size_gaps (a b : Int) (hab : a ≤ b) (L : List Span) : ∀ {m : Int} (lo : Int), okF m L → (lo = a ∨ (a ≤ lo ∧ lo ≤ m)) → tot (gapsL b lo L) + sizeL a b L = if lo < b then b - lo else 0 := by
  induction L with
  | nil =>
    intro m lo _ _
    rw [gapsL]; split <;> simp [tot, sizeL]
  | cons x t ih =>
    intro m lo h hd
    obtain ⟨h1, h2, h3⟩ := h
    rw [gapsL, sizeL]
    split
    · have := ih lo h3 (by omega)
      have e : part a b x = 0 := by unfold part; (repeat' split) <;> omega
      omega
    · rename_i c
      have := ih x.f1 h3 (by omega)
      rw [tot_append]
      have e : part a b x = (if b < x.f1 then b else x.f1) - (if lo > x.f0 then lo else x.f0) := by
        unfold part
        rcases hd with rfl | hd
        · (repeat' split) <;> omega
        · (repeat' split) <;> omega
      have e2 : tot (if lo < x.f0 then [(⟨lo, x.f0⟩ : Span)] else []) = if lo < x.f0 then x.f0 - lo else 0 := by split <;> simp [tot]
      rw [e, e2]
      split at this <;> (repeat' split) <;> omega
theorem sizeL_none (a b : Int) (L : List Span) (h : ∀ q, In L q → ¬ (a ≤ q ∧ q < b)) : sizeL a b L = 0 := by
  induction L with
  | nil => rfl
  | cons x t ih =>
    have e : part a b x = 0 := by
      have h1 := h x.f0
      have h2 := h a
      rw [In_cons] at h1 h2
      unfold part
      by_cases c : a > x.f0
      · rw [if_pos c]
        refine if_neg (fun d => h2 (.inl ⟨by omega, ?_⟩) ⟨by omega, ?_⟩) <;> (split at d <;> omega)
      · rw [if_neg c]
        refine if_neg (fun d => h1 (.inl ⟨by omega, ?_⟩) ⟨by omega, ?_⟩) <;> (split at d <;> omega)
    rw [sizeL, e, ih (fun q hq => h q ((In_cons _ _ _).2 (.inr hq)))]; rfl

def mergeL : Int → Int → List Span → List Span
  | a, b, [] => [⟨a, b⟩]
  | a, b, x :: t => if x.f0 ≤ b then mergeL (if x.f0 < a then x.f0 else a) (if x.f1 > b then x.f1 else b) t else ⟨a, b⟩ :: x :: t
theorem mergeL_in (L : List Span) (q : Int) : ∀ {m : Int} (a b : Int), okF m L → a < b → (∀ z ∈ L, a ≤ z.f1) → (In (mergeL a b L) q ↔ (a ≤ q ∧ q < b) ∨ In L q) := by
  induction L with
  | nil => intro m a b _ _ _; rw [mergeL, In_one]; simp [In_nil]
  | cons x t ih =>
    intro m a b h hab hz
    obtain ⟨h1, h2, h3⟩ := h
    have hx := hz x (by simp)
    rw [mergeL, In_cons]
    split
    · rw [ih _ _ h3 (by (repeat' split) <;> omega) (fun z hz' => by have := hz z (by simp [hz']); split <;> omega), ← or_assoc]
      refine or_congr ?_ Iff.rfl
      split <;> split <;> constructor <;> omega
    · rw [In_cons, In_cons]
theorem mergeL_ok (L : List Span) : ∀ {m m0 : Int} (a b : Int), okF m L → m0 < a → m0 ≤ m → a < b → (∀ z ∈ L, a ≤ z.f1) → okF m0 (mergeL a b L) := by
  induction L with
  | nil => intro m m0 a b _ h _ h' _; exact ⟨h, h', trivial⟩
  | cons x t ih =>
    intro m m0 a b h hm hmm hab hz
    obtain ⟨h1, h2, h3⟩ := h
    have hx := hz x (by simp)
    rw [mergeL]
    split
    · exact ih _ _ h3 (by split <;> omega) (by omega) (by (repeat' split) <;> omega) (fun z hz' => by have := hz z (by simp [hz']); split <;> omega)
    · exact ⟨hm, hab, show b < x.f0 by omega, h2, h3⟩
theorem mergeL_len (L : List Span) : ∀ (a b : Int), (mergeL a b L).length ≤ L.length + 1 := by
  induction L with
  | nil => intro a b; simp [mergeL]
  | cons x t ih =>
    intro a b
    rw [mergeL]
    split
    · have := ih (if x.f0 < a then x.f0 else a) (if x.f1 > b then x.f1 else b); simp only [List.length_cons]; omega
    · simp
theorem okF_mem {b : Int} {l : List Span} (h : okF b l) : ∀ z ∈ l, b < z.f1 := by
  induction l generalizing b with
  | nil => intro z hz; simp at hz
  | cons x t ih =>
    obtain ⟨h1, h2, h3⟩ := h
    intro z hz
    rcases List.mem_cons.1 hz with rfl | hz
    · omega
    · have := ih h3 z hz; omega
theorem okF_el {b : Int} {l : List Span} (h : okF b l) : ∀ z ∈ l, b < z.f0 ∧ z.f0 < z.f1 := by
  induction l generalizing b with
  | nil => intro z hz; simp at hz
  | cons x t ih =>
    obtain ⟨h1, h2, h3⟩ := h
    intro z hz
    rcases List.mem_cons.1 hz with rfl | hz
    · omega
    · have := ih h3 z hz; omega
theorem top_lt {a : Int} (l : List Span) : ∀ {b : Int}, b < a → (∀ z ∈ l, z.f1 < a) → top b l < a := by
  induction l with
  | nil => intro b h _; exact h
  | cons x t ih => intro b _ h; exact ih (h x (by simp)) (fun z hz => h z (by simp [hz]))
/-- The spans ahead of a place, and those behind. -/
def fore (a : Int) : List Span → List Span
  | [] => []
  | x :: t => if x.f1 < a then x :: fore a t else []
def aft (a : Int) : List Span → List Span
  | [] => []
  | x :: t => if x.f1 < a then aft a t else x :: t
theorem fore_aft (a : Int) (L : List Span) : fore a L ++ aft a L = L := by
  induction L with
  | nil => rfl
  | cons x t ih => rw [fore, aft]; split <;> simp [*]
theorem fore_lt (a : Int) (L : List Span) : ∀ z ∈ fore a L, z.f1 < a := by
  induction L with
  | nil => intro z hz; simp [fore] at hz
  | cons x t ih =>
    intro z hz
    rw [fore] at hz
    split at hz
    · rcases List.mem_cons.1 hz with rfl | hz
      · assumption
      · exact ih z hz
    · simp at hz
theorem aft_ge (a : Int) (L : List Span) : ∀ {m : Int}, okF m L → ∀ z ∈ aft a L, a ≤ z.f1 := by
  induction L with
  | nil => intro m _ z hz; simp [aft] at hz
  | cons x t ih =>
    intro m h z hz
    obtain ⟨h1, h2, h3⟩ := h
    rw [aft] at hz
    split at hz
    · exact ih h3 z hz
    · rcases List.mem_cons.1 hz with rfl | hz
      · omega
      · have := okF_mem h3 z hz; omega
def plusL (a b : Int) (L : List Span) : List Span := if a = b then L else fore a L ++ mergeL a b (aft a L)
theorem plusL_in (a b : Int) (hab : a ≤ b) (L : List Span) {m : Int} (h : okF m L) (q : Int) : In (plusL a b L) q ↔ In L q ∨ (a ≤ q ∧ q < b) := by
  unfold plusL
  split
  · constructor
    · exact .inl
    · rintro (g | g)
      · exact g
      · omega
  · have hL : okF m (fore a L ++ aft a L) := by rw [fore_aft]; exact h
    have := (okF_append.1 hL).2
    rw [In_append, mergeL_in (aft a L) q a b this (by omega) (aft_ge a L h)]
    conv => rhs; rw [← fore_aft a L]
    rw [In_append, or_assoc, or_comm (a := a ≤ q ∧ q < b)]
theorem plusL_ok (a b : Int) (hab : a ≤ b) (L : List Span) {m : Int} (h : okF m L) (hm : m < a) : okF m (plusL a b L) := by
  unfold plusL
  split
  · exact h
  · have hL : okF m (fore a L ++ aft a L) := by rw [fore_aft]; exact h
    have h2 := okF_append.1 hL
    rw [okF_append]
    exact ⟨h2.1, mergeL_ok (aft a L) a b h2.2 (top_lt _ hm (fore_lt a L)) (Int.le_refl _) (by omega) (aft_ge a L h)⟩
theorem plusL_len (a b : Int) (L : List Span) : (plusL a b L).length ≤ L.length + 1 := by
  unfold plusL
  split
  · omega
  · have h1 := mergeL_len (aft a L) a b
    have h2 := congrArg List.length (fore_aft a L)
    rw [List.length_append] at *; omega
theorem ok_empty {m : Int} {L : List Span} (h : okF m L) (hq : ∀ q, ¬ In L q) : L = [] := by
  cases L with
  | nil => rfl
  | cons x t => exact absurd ((In_cons _ _ _).2 (.inl ⟨Int.le_refl _, h.2.1⟩)) (hq x.f0)
end Go.AK
