/- Span sets: lists in rising order with gaps between; what cutting, adding and the gaps give. Conditions: none. -/
import Derived.Test.YtlladicdmmdboaaPureFnReorder1
set_option linter.unusedSimpArgs false
set_option linter.unusedVariables false
namespace Go.AK
open Go
abbrev Span := S122
/-! ### Span sets: lists in rising order with gaps; two with the same offsets are one list -/
def In (l : List Span) (q : Int) : Prop := ∃ x ∈ l, x.f0 ≤ q ∧ q < x.f1
def okF : Int → List Span → Prop
  | _, [] => True
  | b, x :: t => b < x.f0 ∧ x.f0 < x.f1 ∧ okF x.f1 t
def top : Int → List Span → Int
  | b, [] => b
  | _, x :: t => top x.f1 t

theorem In_nil (q : Int) : ¬ In [] q := fun ⟨_, h, _⟩ => by simp at h
theorem In_cons (x : Span) (t : List Span) (q : Int) : In (x :: t) q ↔ (x.f0 ≤ q ∧ q < x.f1) ∨ In t q := by
  constructor
  · rintro ⟨y, hy, h⟩
    rcases List.mem_cons.1 hy with rfl | hy
    · exact .inl h
    · exact .inr ⟨y, hy, h⟩
  · rintro (h | ⟨y, hy, h⟩)
    · exact ⟨x, by simp, h⟩
    · exact ⟨y, by simp [hy], h⟩
theorem In_append (l m : List Span) (q : Int) : In (l ++ m) q ↔ In l q ∨ In m q := by
  constructor
  · rintro ⟨y, hy, h⟩
    rcases List.mem_append.1 hy with hy | hy
    · exact .inl ⟨y, hy, h⟩
    · exact .inr ⟨y, hy, h⟩
  · rintro (⟨y, hy, h⟩ | ⟨y, hy, h⟩)
    · exact ⟨y, by simp [hy], h⟩
    · exact ⟨y, by simp [hy], h⟩
theorem In_one (x : Span) (q : Int) : In [x] q ↔ x.f0 ≤ q ∧ q < x.f1 := by rw [In_cons]; simp [In_nil]
theorem okF_gt {b : Int} {l : List Span} (h : okF b l) {q : Int} (hq : In l q) : b < q := by
  induction l generalizing b with
  | nil => exact absurd hq (In_nil q)
  | cons x t ih =>
    obtain ⟨h1, h2, h3⟩ := h
    rcases (In_cons x t q).1 hq with h | h
    · omega
    · have := ih h3 h; omega
theorem okF_mono {b b' : Int} {l : List Span} (hb : b' ≤ b) (h : okF b l) : okF b' l := by
  cases l with
  | nil => trivial
  | cons x t => exact ⟨by have := h.1; omega, h.2⟩
theorem top_ge {b : Int} {l : List Span} (h : okF b l) : b ≤ top b l := by
  induction l generalizing b with
  | nil => exact Int.le_refl _
  | cons x t ih => obtain ⟨h1, h2, h3⟩ := h; have := ih h3; simp only [top]; omega
theorem top_gt {b : Int} {l : List Span} (h : okF b l) {q : Int} (hq : In l q) : q < top b l := by
  induction l generalizing b with
  | nil => exact absurd hq (In_nil q)
  | cons x t ih =>
    obtain ⟨h1, h2, h3⟩ := h
    simp only [top]
    rcases (In_cons x t q).1 hq with h | h
    · have := top_ge h3; omega
    · exact ih h3 h
theorem top_snoc (b : Int) (l : List Span) (x : Span) : top b (l ++ [x]) = x.f1 := by
  induction l generalizing b with
  | nil => rfl
  | cons y t ih => exact ih _
theorem okF_snoc {b : Int} {l : List Span} {x : Span} : okF b (l ++ [x]) ↔ okF b l ∧ top b l < x.f0 ∧ x.f0 < x.f1 := by
  induction l generalizing b with
  | nil => simp [okF, top]
  | cons y t ih => simp only [List.cons_append, okF, top, ih]; constructor <;> (intro h; simp only [h, and_self])
theorem okF_append {b : Int} {l m : List Span} : okF b (l ++ m) ↔ okF b l ∧ okF (top b l) m := by
  induction l generalizing b with
  | nil => simp [okF, top]
  | cons y t ih => simp only [List.cons_append, okF, top, ih]; constructor <;> (intro h; simp only [h, and_self])
theorem top_append (b : Int) (l m : List Span) : top b (l ++ m) = top (top b l) m := by
  induction l generalizing b with
  | nil => rfl
  | cons y t ih => exact ih _
theorem span_ext {x y : Span} (h0 : x.f0 = y.f0) (h1 : x.f1 = y.f1) : x = y := by cases x; cases y; simp_all
theorem canon {b b' : Int} {l l' : List Span} (h : okF b l) (h' : okF b' l') (hq : ∀ q, In l q ↔ In l' q) : l = l' := by
  induction l generalizing b b' l' with
  | nil =>
    cases l' with
    | nil => rfl
    | cons y t => exact absurd ((hq y.f0).2 ((In_cons _ _ _).2 (.inl ⟨Int.le_refl _, h'.2.1⟩))) (In_nil _)
  | cons x t ih =>
    cases l' with
    | nil => exact absurd ((hq x.f0).1 ((In_cons _ _ _).2 (.inl ⟨Int.le_refl _, h.2.1⟩))) (In_nil _)
    | cons y t' =>
      obtain ⟨h1, h2, h3⟩ := h
      obtain ⟨g1, g2, g3⟩ := h'
      have e0 : x.f0 = y.f0 := by
        have a := (In_cons _ _ _).1 ((hq x.f0).1 ((In_cons _ _ _).2 (.inl ⟨Int.le_refl _, h2⟩)))
        have c := (In_cons _ _ _).1 ((hq y.f0).2 ((In_cons _ _ _).2 (.inl ⟨Int.le_refl _, g2⟩)))
        rcases a with a | a
        · rcases c with c | c
          · omega
          · have := okF_gt h3 c; omega
        · have := okF_gt g3 a
          rcases c with c | c
          · omega
          · have := okF_gt h3 c; omega
      have e1 : x.f1 = y.f1 := by
        rcases Int.lt_trichotomy x.f1 y.f1 with c | c | c
        · have a := (In_cons _ _ _).1 ((hq x.f1).2 ((In_cons _ _ _).2 (.inl ⟨by omega, c⟩)))
          rcases a with a | a
          · omega
          · have := okF_gt h3 a; omega
        · exact c
        · have a := (In_cons _ _ _).1 ((hq y.f1).1 ((In_cons _ _ _).2 (.inl ⟨by omega, c⟩)))
          rcases a with a | a
          · omega
          · have := okF_gt g3 a; omega
      rw [span_ext e0 e1]
      congr 1
      refine ih h3 (e1 ▸ g3) (fun q => ?_)
      constructor
      · intro hm
        have hg := okF_gt h3 hm
        rcases (In_cons _ _ _).1 ((hq q).1 ((In_cons _ _ _).2 (.inr hm))) with a | a
        · omega
        · exact a
      · intro hm
        have hg := okF_gt g3 hm
        rcases (In_cons _ _ _).1 ((hq q).2 ((In_cons _ _ _).2 (.inr hm))) with a | a
        · omega
        · exact a
instance decIn (l : List Span) (q : Int) : Decidable (In l q) := List.decidableBEx (fun x : Span => x.f0 ≤ q ∧ q < x.f1) l
instance decOkF : (b : Int) → (l : List Span) → Decidable (okF b l)
  | _, [] => isTrue trivial
  | _, x :: t => @instDecidableAnd _ _ _ (@instDecidableAnd _ _ _ (decOkF x.f1 t))
/-! ### what the program's functions give, as plain recursions -/
def cutP (a b : Int) (x : Span) : List Span := if a = b ∨ x.f1 ≤ a ∨ x.f0 ≥ b then [x] else (if x.f0 < a then [⟨x.f0, a⟩] else []) ++ (if x.f1 > b then [⟨b, x.f1⟩] else [])
def cutL (a b : Int) : List Span → List Span
  | [] => []
  | x :: t => cutP a b x ++ cutL a b t
theorem cutP_in (a b : Int) (hab : a ≤ b) (x : Span) (q : Int) : In (cutP a b x) q ↔ (x.f0 ≤ q ∧ q < x.f1) ∧ ¬ (a ≤ q ∧ q < b) := by
  unfold cutP
  split
  · rw [In_one]; constructor <;> omega
  · split <;> split <;> simp only [List.append_nil, List.nil_append, List.singleton_append, In_cons, In_nil, or_false] <;> constructor <;> intro h <;> first | exact h.elim | omega
theorem cutL_in (a b : Int) (hab : a ≤ b) (L : List Span) (q : Int) : In (cutL a b L) q ↔ In L q ∧ ¬ (a ≤ q ∧ q < b) := by
  induction L with
  | nil => simp [cutL, In_nil]
  | cons x t ih =>
    rw [cutL, In_append, cutP_in a b hab, ih, In_cons]
    constructor
    · rintro (h | h)
      · exact ⟨.inl h.1, h.2⟩
      · exact ⟨.inr h.1, h.2⟩
    · rintro ⟨h | h, n⟩
      · exact .inl ⟨h, n⟩
      · exact .inr ⟨h, n⟩
theorem cutP_ok (a b : Int) (hab : a ≤ b) (x : Span) {m : Int} (h1 : m < x.f0) (h2 : x.f0 < x.f1) : okF m (cutP a b x) ∧ top m (cutP a b x) ≤ x.f1 := by
  unfold cutP
  split
  · exact ⟨⟨h1, h2, trivial⟩, Int.le_refl _⟩
  · split <;> split <;> simp only [List.append_nil, List.nil_append, List.singleton_append, okF, top, and_true, true_and] <;> omega
theorem cutL_ok (a b : Int) (hab : a ≤ b) (L : List Span) : ∀ {m : Int}, okF m L → okF m (cutL a b L) := by
  induction L with
  | nil => intro m h; exact trivial
  | cons x t ih =>
    intro m h
    obtain ⟨h1, h2, h3⟩ := h
    have hp := cutP_ok a b hab x h1 h2
    rw [cutL, okF_append]
    exact ⟨hp.1, okF_mono hp.2 (ih h3)⟩
theorem cutL_far (a b : Int) (L : List Span) : ∀ {m : Int}, b ≤ m → okF m L → cutL a b L = L := by
  induction L with
  | nil => intro m _ h; rfl
  | cons x t ih =>
    intro m hm h
    obtain ⟨h1, h2, h3⟩ := h
    rw [cutL, ih (m := x.f1) (by omega) h3, cutP, if_pos (.inr (.inr (by omega)))]; rfl
theorem cutL_len (a b : Int) (L : List Span) : ∀ {m : Int}, okF m L → (cutL a b L).length ≤ L.length + 1 := by
  induction L with
  | nil => intro m h; simp [cutL]
  | cons x t ih =>
    intro m h
    obtain ⟨h1, h2, h3⟩ := h
    by_cases c : x.f1 > b
    · rw [cutL, cutL_far a b t (m := x.f1) (by omega) h3, cutP]
      split
      · simp
      · (repeat' split) <;> simp
    · have := ih h3
      have e : (cutP a b x).length ≤ 1 := by
        unfold cutP
        split
        · simp
        · (repeat' split) <;> simp
      rw [cutL, List.length_append, List.length_cons]; omega

def gapsL (b : Int) : Int → List Span → List Span
  | lo, [] => if lo < b then [⟨lo, b⟩] else []
  | lo, x :: t => if x.f1 ≤ lo ∨ x.f0 ≥ b then gapsL b lo t else (if lo < x.f0 then [⟨lo, x.f0⟩] else []) ++ gapsL b x.f1 t
theorem gapsL_in (b : Int) (L : List Span) (q : Int) : ∀ {m : Int} (lo : Int), okF m L → (In (gapsL b lo L) q ↔ lo ≤ q ∧ q < b ∧ ¬ In L q) := by
  induction L with
  | nil =>
    intro m lo _
    rw [gapsL]; split
    · rw [In_one]; simp [In_nil]
    · simp only [In_nil]; constructor <;> (intro h; first | exact h.elim | omega)
  | cons x t ih =>
    intro m lo h
    obtain ⟨h1, h2, h3⟩ := h
    rw [gapsL, In_cons]
    split
    · rw [ih lo h3]
      constructor
      · exact fun g => ⟨g.1, g.2.1, fun o => o.elim (fun o => by omega) g.2.2⟩
      · exact fun g => ⟨g.1, g.2.1, fun o => g.2.2 (.inr o)⟩
    · rw [In_append, ih x.f1 h3]
      constructor
      · rintro (g | g)
        · split at g
          · rw [In_one] at g; simp only [] at g
            exact ⟨g.1, by omega, fun o => o.elim (fun o => by omega) (fun o => by have := okF_gt h3 o; omega)⟩
          · exact (In_nil q g).elim
        · exact ⟨by omega, g.2.1, fun o => o.elim (fun o => by omega) g.2.2⟩
      · rintro ⟨g1, g2, g3⟩
        by_cases w : q < x.f0
        · left; rw [if_pos (by omega), In_one]; exact ⟨g1, w⟩
        · right
          refine ⟨?_, g2, fun o => g3 (.inr o)⟩
          rcases Int.lt_or_le q x.f1 with z | z
          · exact absurd (.inl ⟨by omega, z⟩) g3
          · exact z
theorem gapsL_ok (b : Int) (L : List Span) : ∀ {m m0 : Int} (lo : Int), okF m L → m0 < lo → okF m0 (gapsL b lo L) := by
  induction L with
  | nil =>
    intro m m0 lo _ h
    rw [gapsL]; split
    · rename_i c; exact ⟨h, c, trivial⟩
    · trivial
  | cons x t ih =>
    intro m m0 lo h hm
    obtain ⟨h1, h2, h3⟩ := h
    rw [gapsL]
    split
    · exact ih lo h3 hm
    · rename_i c
      split
      · rename_i d
        exact ⟨hm, d, ih x.f1 h3 h2⟩
      · exact ih x.f1 h3 (by omega)
theorem gapsL_len (b : Int) (L : List Span) : ∀ (lo : Int), (gapsL b lo L).length ≤ L.length + 1 := by
  induction L with
  | nil => intro lo; rw [gapsL]; split <;> simp
  | cons x t ih =>
    intro lo
    rw [gapsL]
    split
    · have := ih lo; simp only [List.length_cons]; omega
    · have := ih x.f1
      split <;> simp only [List.length_append, List.length_cons, List.length_nil] <;> omega
/-- All widths together. -/
def tot : List Span → Int
  | [] => 0
  | x :: t => (x.f1 - x.f0) + tot t
theorem tot_append (l m : List Span) : tot (l ++ m) = tot l + tot m := by
  induction l with
  | nil => simp [tot]
  | cons x t ih => simp only [List.cons_append, tot, ih]; omega
theorem tot_nonneg {l : List Span} : ∀ {m : Int}, okF m l → 0 ≤ tot l := by
  induction l with
  | nil => intro m _; exact Int.le_refl _
  | cons x t ih => intro m h; obtain ⟨h1, h2, h3⟩ := h; have := ih h3; simp only [tot]; omega
theorem tot_zero {l : List Span} {m : Int} (h : okF m l) : tot l = 0 ↔ l = [] := by
  constructor
  · cases l with
    | nil => intro _; rfl
    | cons x t => obtain ⟨h1, h2, h3⟩ := h; have := tot_nonneg h3; simp only [tot]; omega
  · rintro rfl; rfl
/-- What one span has of a stretch, and all of them. -/
def part (a b : Int) (x : Span) : Int := if (if a > x.f0 then a else x.f0) < (if b < x.f1 then b else x.f1) then (if b < x.f1 then b else x.f1) - (if a > x.f0 then a else x.f0) else 0
def sizeL (a b : Int) : List Span → Int
  | [] => 0
  | x :: t => part a b x + sizeL a b t
theorem part_rng (a b : Int) (x : Span) : 0 ≤ part a b x := by unfold part; split <;> omega
theorem sizeL_nonneg (a b : Int) (l : List Span) : 0 ≤ sizeL a b l := by
  induction l with
  | nil => exact Int.le_refl _
  | cons x t ih => have := part_rng a b x; simp only [sizeL]; omega
theorem size_gaps (a b : Int) (hab : a ≤ b) (L : List Span) : ∀ {m : Int} (lo : Int), okF m L → (lo = a ∨ (a ≤ lo ∧ lo ≤ m)) → tot (gapsL b lo L) + sizeL a b L = if lo < b then b - lo else 0 := by
  induction L with
  | nil =>
    intro m lo _ _
    rw [gapsL]; split <;> simp [tot, sizeL]
  | cons x t ih =>
    intro m lo h hd
    obtain ⟨h1, h2, h3⟩ := h
    rw [gapsL, sizeL]
    split
    · have := ih lo h3 (by omega)
      have e : part a b x = 0 := by unfold part; (repeat' split) <;> omega
      omega
    · rename_i c
      have := ih x.f1 h3 (by omega)
      rw [tot_append]
      have e : part a b x = (if b < x.f1 then b else x.f1) - (if lo > x.f0 then lo else x.f0) := by
        unfold part
        rcases hd with rfl | hd
        · (repeat' split) <;> omega
        · (repeat' split) <;> omega
      have e2 : tot (if lo < x.f0 then [(⟨lo, x.f0⟩ : Span)] else []) = if lo < x.f0 then x.f0 - lo else 0 := by split <;> simp [tot]
      rw [e, e2]
      split at this <;> (repeat' split) <;> omega
theorem sizeL_none (a b : Int) (L : List Span) (h : ∀ q, In L q → ¬ (a ≤ q ∧ q < b)) : sizeL a b L = 0 := by
  induction L with
  | nil => rfl
  | cons x t ih =>
    have e : part a b x = 0 := by
      have h1 := h x.f0
      have h2 := h a
      rw [In_cons] at h1 h2
      unfold part
      by_cases c : a > x.f0
      · rw [if_pos c]
        refine if_neg (fun d => h2 (.inl ⟨by omega, ?_⟩) ⟨by omega, ?_⟩) <;> (split at d <;> omega)
      · rw [if_neg c]
        refine if_neg (fun d => h1 (.inl ⟨by omega, ?_⟩) ⟨by omega, ?_⟩) <;> (split at d <;> omega)
    rw [sizeL, e, ih (fun q hq => h q ((In_cons _ _ _).2 (.inr hq)))]; rfl

def mergeL : Int → Int → List Span → List Span
  | a, b, [] => [⟨a, b⟩]
  | a, b, x :: t => if x.f0 ≤ b then mergeL (if x.f0 < a then x.f0 else a) (if x.f1 > b then x.f1 else b) t else ⟨a, b⟩ :: x :: t
theorem mergeL_in (L : List Span) (q : Int) : ∀ {m : Int} (a b : Int), okF m L → a < b → (∀ z ∈ L, a ≤ z.f1) → (In (mergeL a b L) q ↔ (a ≤ q ∧ q < b) ∨ In L q) := by
  induction L with
  | nil => intro m a b _ _ _; rw [mergeL, In_one]; simp [In_nil]
  | cons x t ih =>
    intro m a b h hab hz
    obtain ⟨h1, h2, h3⟩ := h
    have hx := hz x (by simp)
    rw [mergeL, In_cons]
    split
    · rw [ih _ _ h3 (by (repeat' split) <;> omega) (fun z hz' => by have := hz z (by simp [hz']); split <;> omega), ← or_assoc]
      refine or_congr ?_ Iff.rfl
      split <;> split <;> constructor <;> omega
    · rw [In_cons, In_cons]
theorem mergeL_ok (L : List Span) : ∀ {m m0 : Int} (a b : Int), okF m L → m0 < a → m0 ≤ m → a < b → (∀ z ∈ L, a ≤ z.f1) → okF m0 (mergeL a b L) := by
  induction L with
  | nil => intro m m0 a b _ h _ h' _; exact ⟨h, h', trivial⟩
  | cons x t ih =>
    intro m m0 a b h hm hmm hab hz
    obtain ⟨h1, h2, h3⟩ := h
    have hx := hz x (by simp)
    rw [mergeL]
    split
    · exact ih _ _ h3 (by split <;> omega) (by omega) (by (repeat' split) <;> omega) (fun z hz' => by have := hz z (by simp [hz']); split <;> omega)
    · exact ⟨hm, hab, show b < x.f0 by omega, h2, h3⟩
theorem mergeL_len (L : List Span) : ∀ (a b : Int), (mergeL a b L).length ≤ L.length + 1 := by
  induction L with
  | nil => intro a b; simp [mergeL]
  | cons x t ih =>
    intro a b
    rw [mergeL]
    split
    · have := ih (if x.f0 < a then x.f0 else a) (if x.f1 > b then x.f1 else b); simp only [List.length_cons]; omega
    · simp
theorem okF_mem {b : Int} {l : List Span} (h : okF b l) : ∀ z ∈ l, b < z.f1 := by
  induction l generalizing b with
  | nil => intro z hz; simp at hz
  | cons x t ih =>
    obtain ⟨h1, h2, h3⟩ := h
    intro z hz
    rcases List.mem_cons.1 hz with rfl | hz
    · omega
    · have := ih h3 z hz; omega
theorem okF_el {b : Int} {l : List Span} (h : okF b l) : ∀ z ∈ l, b < z.f0 ∧ z.f0 < z.f1 := by
  induction l generalizing b with
  | nil => intro z hz; simp at hz
  | cons x t ih =>
    obtain ⟨h1, h2, h3⟩ := h
    intro z hz
    rcases List.mem_cons.1 hz with rfl | hz
    · omega
    · have := ih h3 z hz; omega
theorem top_lt {a : Int} (l : List Span) : ∀ {b : Int}, b < a → (∀ z ∈ l, z.f1 < a) → top b l < a := by
  induction l with
  | nil => intro b h _; exact h
  | cons x t ih => intro b _ h; exact ih (h x (by simp)) (fun z hz => h z (by simp [hz]))
/-- The spans ahead of a place, and those behind. -/
def fore (a : Int) : List Span → List Span
  | [] => []
  | x :: t => if x.f1 < a then x :: fore a t else []
def aft (a : Int) : List Span → List Span
  | [] => []
  | x :: t => if x.f1 < a then aft a t else x :: t
theorem fore_aft (a : Int) (L : List Span) : fore a L ++ aft a L = L := by
  induction L with
  | nil => rfl
  | cons x t ih => rw [fore, aft]; split <;> simp [*]
theorem fore_lt (a : Int) (L : List Span) : ∀ z ∈ fore a L, z.f1 < a := by
  induction L with
  | nil => intro z hz; simp [fore] at hz
  | cons x t ih =>
    intro z hz
    rw [fore] at hz
    split at hz
    · rcases List.mem_cons.1 hz with rfl | hz
      · assumption
      · exact ih z hz
    · simp at hz
theorem aft_ge (a : Int) (L : List Span) : ∀ {m : Int}, okF m L → ∀ z ∈ aft a L, a ≤ z.f1 := by
  induction L with
  | nil => intro m _ z hz; simp [aft] at hz
  | cons x t ih =>
    intro m h z hz
    obtain ⟨h1, h2, h3⟩ := h
    rw [aft] at hz
    split at hz
    · exact ih h3 z hz
    · rcases List.mem_cons.1 hz with rfl | hz
      · omega
      · have := okF_mem h3 z hz; omega
def plusL (a b : Int) (L : List Span) : List Span := if a = b then L else fore a L ++ mergeL a b (aft a L)
theorem plusL_in (a b : Int) (hab : a ≤ b) (L : List Span) {m : Int} (h : okF m L) (q : Int) : In (plusL a b L) q ↔ In L q ∨ (a ≤ q ∧ q < b) := by
  unfold plusL
  split
  · constructor
    · exact .inl
    · rintro (g | g)
      · exact g
      · omega
  · have hL : okF m (fore a L ++ aft a L) := by rw [fore_aft]; exact h
    have := (okF_append.1 hL).2
    rw [In_append, mergeL_in (aft a L) q a b this (by omega) (aft_ge a L h)]
    conv => rhs; rw [← fore_aft a L]
    rw [In_append, or_assoc, or_comm (a := a ≤ q ∧ q < b)]
theorem plusL_ok (a b : Int) (hab : a ≤ b) (L : List Span) {m : Int} (h : okF m L) (hm : m < a) : okF m (plusL a b L) := by
  unfold plusL
  split
  · exact h
  · have hL : okF m (fore a L ++ aft a L) := by rw [fore_aft]; exact h
    have h2 := okF_append.1 hL
    rw [okF_append]
    exact ⟨h2.1, mergeL_ok (aft a L) a b h2.2 (top_lt _ hm (fore_lt a L)) (Int.le_refl _) (by omega) (aft_ge a L h)⟩
theorem plusL_len (a b : Int) (L : List Span) : (plusL a b L).length ≤ L.length + 1 := by
  unfold plusL
  split
  · omega
  · have h1 := mergeL_len (aft a L) a b
    have h2 := congrArg List.length (fore_aft a L)
    rw [List.length_append] at *; omega
theorem ok_empty {m : Int} {L : List Span} (h : okF m L) (hq : ∀ q, ¬ In L q) : L = [] := by
  cases L with
  | nil => rfl
  | cons x t => exact absurd ((In_cons _ _ _).2 (.inl ⟨Int.le_refl _, h.2.1⟩)) (hq x.f0)
theorem rd_last {l pre xs : List Span} {i b : Int} (h : l = pre ++ xs) (hi : (pre.length : Int) = i) (hp : 0 < i) : (rd z122 l (i - 1)).f1 = top b pre := by
  obtain rfl | ⟨p, z, rfl⟩ := List.eq_nil_or_concat pre
  · simp at hi; omega
  · rw [List.concat_eq_append] at *
    rw [h, top_snoc, List.append_assoc, List.singleton_append, rd_app (by rw [List.length_append, List.length_singleton] at hi; omega)]
theorem cons_snoc {l pre t : List Span} {x : Span} (h : l = pre ++ x :: t) : l = (pre ++ [x]) ++ t := by rw [h]; simp
theorem app_len {l pre xs : List Span} (h : l = pre ++ xs) : l.length = pre.length + xs.length := by rw [h, List.length_append]
def setok (l : List Span) : Bool := decide (l.length ≤ 1000 ∧ okF (-1) l)
theorem setok_of {l : List Span} (h : setok l = true) : l.length ≤ 1000 ∧ okF (-1) l := by unfold setok at h; exact of_decide_eq_true h
theorem setok_is {l : List Span} (h1 : l.length ≤ 1000) (h2 : okF (-1) l) : setok l = true := by unfold setok; exact decide_eq_true ⟨h1, h2⟩
def lim (R : List Span) : List Span × Int := if (R.length : Int) > 1000 then ([], 5) else (R, 0)
theorem valid_loop (l : List Span) (hl : l.length ≤ 1000) (xs : List Span) : ∀ (pre : List Span) (i : Int), l = pre ++ xs → (pre.length : Int) = i → (∀ x ∈ xs, 0 ≤ x.f0) →
    impl_validSpans.l0 l (l.length : Int) i = some (if okF (top (-1) pre) xs then .a () else .b false) := by
  induction xs with
  | nil =>
    intro pre i h hi hx
    rw [impl_validSpans.l0, if_neg (by rw [h]; exact nlt_app hi), if_pos (by trivial)]
  | cons x t ih =>
    intro pre i h hi hx
    have hx0 := hx x (by simp)
    have hlt : 0 ≤ i ∧ i < (l.length : Int) := by rw [h]; exact lt_app hi
    have e : rd z122 l i = x := by rw [h]; exact rd_app hi
    have nx := ih (pre ++ [x]) (i + 1) (cons_snoc h) (len_snoc hi) (fun y hy => hx y (by simp [hy]))
    rw [top_snoc] at nx
    rw [impl_validSpans.l0, if_pos hlt.2, if_pos hlt, e, wi64_in (n := i + 1) (by omega) (by omega), nx]
    by_cases c : x.f0 ≥ x.f1
    · rw [if_pos c, some_bind, if_pos rfl, if_neg (fun h => by have := h.2.1; omega)]
    · rw [if_neg c]
      have go : top (-1) pre < x.f0 → (if okF x.f1 t then Lp.a () else Lp.b false) = (if okF (top (-1) pre) (x :: t) then Lp.a () else Lp.b false) := by
        intro h1
        by_cases k : okF x.f1 t
        · rw [if_pos k, if_pos ⟨h1, by omega, k⟩]
        · rw [if_neg k, if_neg (fun h => k h.2.2)]
      by_cases p : i > 0
      · rw [if_pos p, wi64_in (n := i - 1) (by omega) (by omega), if_pos (by omega), some_bind, rd_last (b := -1) h hi p]
        by_cases d : x.f0 ≤ top (-1) pre
        · rw [if_pos (decide_eq_true d), if_neg (fun h => by have := h.1; omega)]
        · rw [if_neg (by simpa using d), go (by omega)]
      · have hp : pre = [] := List.length_eq_zero_iff.1 (by omega)
        rw [if_neg p, some_bind, if_neg nft, go (by rw [hp]; simp only [top]; omega)]
theorem valid_good (l : List Span) (a b : Int) (hx : ∀ x ∈ l, 0 ≤ x.f0) (hs : setok l = true) (hab : a ≤ b) : impl_validSpans.f l a b = some true := by
  obtain ⟨h1, h2⟩ := setok_of hs
  unfold impl_validSpans.f
  rw [if_neg (by omega), some_bind, if_neg (by simpa using hab), valid_loop l h1 l [] 0 rfl rfl hx]
  have k : okF (top (-1) []) l := h2
  rw [if_pos k]; rfl
theorem lim_step (R : List Span) : (impl_limited.f R >>= fun t13 => (match t13.1 with | none => (some (R, t13.2)) | some p17 => (some (p17, t13.2)))) = some (lim R) := by
  unfold impl_limited.f lim
  split <;> rfl
theorem fit2 {α : Type} (out : List α) (x : α) (h : out.length ≤ 100000) : ((out ++ [x]).length + 1) * 16 ≤ 140737488355328 := by
  have e : (out ++ [x]).length = out.length + 1 := by simp
  omega
theorem cut_loop (l : List Span) (a b : Int) (hl : l.length ≤ 1000) (xs : List Span) : ∀ (i : Int) (out : List Span), 0 ≤ i → l.drop i.toNat = xs → (out.length : Int) ≤ 2 * i →
    impl_SpanCut.l0 l (l.length : Int) a b i out = some (out ++ cutL a b xs) := by
  induction xs with
  | nil => intro i out h0 hd ho; rw [impl_SpanCut.l0, if_neg (suf_nil h0 hd)]; simp [cutL]
  | cons x t ih =>
    intro i out h0 hd ho
    obtain ⟨q1, q2, q3⟩ := suf_cons h0 hd z122
    have g1 : (out.length + 1) * 16 ≤ 140737488355328 := by omega
    have nx : ∀ o : List Span, o.length ≤ 2 → impl_SpanCut.l0 l (l.length : Int) a b (i + 1) (out ++ o) = some (out ++ (o ++ cutL a b t)) := by
      intro o h
      rw [ih (i + 1) _ (by omega) q3 (by rw [List.length_append]; omega), List.append_assoc]
    rw [impl_SpanCut.l0, if_pos q1, if_pos ⟨h0, q1⟩, q2, wi64_in (n := i + 1) (by omega) (by omega), cutL, cutP]
    have whole : (a = b ∨ x.f1 ≤ a ∨ x.f0 ≥ b) → (if a = b then (some true) else (if x.f1 ≤ a then (some true) else (some (decide (x.f0 ≥ b))))) = some true := by
      intro h
      split
      · rfl
      split
      · rfl
      · rw [decide_eq_true]; omega
    by_cases c : a = b ∨ x.f1 ≤ a ∨ x.f0 ≥ b
    · rw [whole c, if_pos c, some_bind, if_pos rfl, if_pos g1, some_bind]
      exact nx [x] (by simp)
    · have hn : (if a = b then (some true) else (if x.f1 ≤ a then (some true) else (some (decide (x.f0 ≥ b))))) = some false := by
        rw [if_neg (by omega), if_neg (by omega), decide_eq_false (by omega)]
      rw [hn, if_neg c, some_bind, if_neg nft]
      by_cases d : x.f0 < a
      · rw [if_pos d, if_pos g1, some_bind, if_pos d]
        by_cases e : x.f1 > b
        · have g2 : ((out ++ ([(⟨x.f0, a⟩ : S122)] : List S122)).length + 1) * 16 ≤ 140737488355328 := fit2 out _ (by omega)
          rw [if_pos e, if_pos g2, some_bind, if_pos e, List.append_assoc]
          exact nx ([⟨x.f0, a⟩] ++ [⟨b, x.f1⟩]) (by simp)
        · rw [if_neg e, some_bind, if_neg e]
          exact nx [_] (by simp)
      · rw [if_neg d, some_bind, if_neg d]
        by_cases e : x.f1 > b
        · rw [if_pos e, if_pos g1, some_bind, if_pos e]
          exact nx [_] (by simp)
        · rw [if_neg e, some_bind, if_neg e]
          have := nx [] (by simp)
          simpa using this
theorem cut_is (l : List Span) (a b : Int) (hx : ∀ x ∈ l, 0 ≤ x.f0) (hs : setok l = true) (hab : a ≤ b) : impl_SpanCut.f l a b = some (lim (cutL a b l)) := by
  unfold impl_SpanCut.f
  rw [valid_good l a b hx hs hab, some_bind, if_neg (by decide), cut_loop l a b (setok_of hs).1 l 0 [] (by omega) rfl (by simp), some_bind]
  exact lim_step _
theorem gaps_loop (l : List Span) (a b : Int) (hl : l.length ≤ 1000) (xs : List Span) : ∀ (lo i : Int) (out : List Span), 0 ≤ i → i ≤ l.length → l.drop i.toNat = xs → (out.length : Int) ≤ i →
    ∃ y, impl_SpanGaps.l0 l (l.length : Int) a b lo i out = some y ∧ (y.2 ++ if y.1 < b then [⟨y.1, b⟩] else []) = out ++ gapsL b lo xs ∧ y.2.length ≤ 1000 := by
  induction xs with
  | nil =>
    intro lo i out h0 h1 hd ho
    rw [impl_SpanGaps.l0, if_neg (suf_nil h0 hd)]
    exact ⟨_, rfl, rfl, by show out.length ≤ 1000; omega⟩
  | cons x t ih =>
    intro lo i out h0 h1 hd ho
    obtain ⟨q1, q2, q3⟩ := suf_cons h0 hd z122
    rw [impl_SpanGaps.l0, if_pos q1, if_pos ⟨h0, q1⟩, q2, wi64_in (n := i + 1) (by omega) (by omega), gapsL]
    have hj : (if x.f1 ≤ lo then (some true) else (some (decide (x.f0 ≥ b)))) = some (decide (x.f1 ≤ lo ∨ x.f0 ≥ b)) := by
      split
      · rw [decide_eq_true]; omega
      · congr 1; rw [decide_eq_decide]; omega
    rw [hj, some_bind]
    by_cases c : x.f1 ≤ lo ∨ x.f0 ≥ b
    · rw [if_pos (decide_eq_true c), if_pos c, some_bind]
      exact ih lo (i + 1) out (by omega) (by omega) q3 (by omega)
    · rw [if_neg (by simpa using c), if_neg c]
      by_cases d : lo < x.f0
      · rw [if_pos d, if_pos (by omega), some_bind, some_bind, if_pos d]
        obtain ⟨y, y1, y2, y3⟩ := ih x.f1 (i + 1) (out ++ [⟨lo, x.f0⟩]) (by omega) (by omega) q3 (by rw [List.length_append, List.length_singleton]; omega)
        exact ⟨y, y1, by rw [y2, List.append_assoc], y3⟩
      · rw [if_neg d, some_bind, some_bind, if_neg d]
        exact ih x.f1 (i + 1) out (by omega) (by omega) q3 (by omega)
theorem gaps_is (l : List Span) (a b : Int) (hx : ∀ x ∈ l, 0 ≤ x.f0) (hs : setok l = true) (hab : a ≤ b) : impl_SpanGaps.f l a b = some (lim (gapsL b a l)) := by
  unfold impl_SpanGaps.f
  obtain ⟨y, y1, y2, y3⟩ := gaps_loop l a b (setok_of hs).1 l a 0 [] (by omega) (by omega) rfl (by simp)
  rw [valid_good l a b hx hs hab, some_bind, if_neg (by decide), y1, some_bind]
  rw [List.nil_append] at y2
  by_cases c : y.1 < b
  · rw [if_pos c] at y2
    rw [if_pos c, if_pos (by omega), some_bind, y2]
    exact lim_step _
  · rw [if_neg c, List.append_nil] at y2
    rw [if_neg c, some_bind, y2]
    exact lim_step _
theorem size_loop (l : List Span) (a b : Int) (hl : l.length ≤ 1000) (xs : List Span) : ∀ (n i : Int), 0 ≤ i → l.drop i.toNat = xs → 0 ≤ n → n + sizeL a b xs < 18446744073709551616 →
    impl_SpanSize.l0 l (l.length : Int) a b n i = some (n + sizeL a b xs) := by
  induction xs with
  | nil => intro n i h0 hd hn hm; rw [impl_SpanSize.l0, if_neg (suf_nil h0 hd)]; simp [sizeL]
  | cons x t ih =>
    intro n i h0 hd hn hm
    obtain ⟨q1, q2, q3⟩ := suf_cons h0 hd z122
    have p0 := part_rng a b x
    have s0 := sizeL_nonneg a b t
    rw [sizeL] at hm ⊢
    have hj : (if (if a > (x.f0) then a else x.f0) < (if b < (x.f1) then b else x.f1) then (some (IntKind.u64.wrap (n + (IntKind.u64.wrap ((if b < (x.f1) then b else x.f1) - (if a > (x.f0) then a else x.f0)))))) else (some n)) = some (n + part a b x) := by
      by_cases c : (if a > x.f0 then a else x.f0) < (if b < x.f1 then b else x.f1)
      · have e : part a b x = (if b < x.f1 then b else x.f1) - (if a > x.f0 then a else x.f0) := if_pos c
        rw [if_pos c, ← e, wu64_in (n := part a b x) (by omega) (by omega), wu64_in (by omega) (by omega)]
      · have e : part a b x = 0 := if_neg c
        rw [if_neg c, e, Int.add_zero]
    rw [impl_SpanSize.l0, if_pos q1, if_pos ⟨h0, q1⟩, q2, hj, some_bind, wi64_in (n := i + 1) (by omega) (by omega), ih (n + part a b x) (i + 1) (by omega) q3 (by omega) (by omega), Int.add_assoc]
theorem size_is (l : List Span) (a b : Int) (hx : ∀ x ∈ l, 0 ≤ x.f0) (hs : setok l = true) (hab : a ≤ b) (hm : sizeL a b l < 18446744073709551616) : impl_SpanSize.f l a b = some (sizeL a b l, 0) := by
  unfold impl_SpanSize.f
  rw [valid_good l a b hx hs hab, some_bind, if_neg (by decide), size_loop l a b (setok_of hs).1 l 0 0 (by omega) rfl (by omega) (by omega), some_bind, Int.zero_add]
theorem spPlace_loop (l : List Span) (kk c : Int) (hl : (l.length : Int) ≤ 1000) (hk : ∀ i : Int, 0 ≤ i → i < (l.length : Int) → ((rd z122 l i).f1 < kk ↔ i < c)) (n : Nat) :
    ∀ lo hi : Int, 0 ≤ lo → lo ≤ c → c ≤ hi → hi ≤ (l.length : Int) → hi - lo ≤ n → impl_place_impl_Span_uint64_v2f145.l0 l kk lo hi = some c := by
  induction n with
  | zero =>
    intro lo hi h0 h1 h2 h3 hn
    rw [impl_place_impl_Span_uint64_v2f145.l0, if_neg (by omega)]
    congr 1; omega
  | succ n ih =>
    intro lo hi h0 h1 h2 h3 hn
    by_cases lt : lo < hi
    · have em : IntKind.i64.wrap (Int.tdiv (IntKind.i64.wrap (lo + hi)) 2) = (lo + hi) / 2 := by
        rw [wi64_in (n := lo + hi) (by omega) (by omega), Int.tdiv_eq_ediv_of_nonneg (by omega), wi64_in (by omega) (by omega)]
      have e2 := hk ((lo + hi) / 2) (by omega) (by omega)
      rw [impl_place_impl_Span_uint64_v2f145.l0, if_pos lt, em, if_pos (by omega)]
      show (if (rd z122 l ((lo + hi) / 2)).f1 < kk then _ else _) = _
      by_cases q : (rd z122 l ((lo + hi) / 2)).f1 < kk
      · rw [if_pos q, wi64_in (n := (lo + hi) / 2 + 1) (by omega) (by omega)]
        have := e2.1 q
        exact ih _ _ (by omega) (by omega) h2 h3 (by omega)
      · rw [if_neg q]
        have : ¬ (lo + hi) / 2 < c := fun g => q (e2.2 g)
        exact ih _ _ h0 h1 (by omega) (by omega) (by omega)
    · rw [impl_place_impl_Span_uint64_v2f145.l0, if_neg lt]; congr 1; omega
theorem spAdd_loop (l out : List Span) (hl : l.length ≤ 1000) (xs : List Span) : ∀ (i a b : Int), 0 ≤ i → i ≤ l.length → l.drop i.toNat = xs →
    ∃ y, impl_add.l0 l out i a b = some y ∧ 0 ≤ y.1 ∧ y.1 ≤ l.length ∧ (⟨y.2.1, y.2.2⟩ : Span) :: l.drop y.1.toNat = mergeL a b xs := by
  induction xs with
  | nil =>
    intro i a b h0 h1 hd
    rw [impl_add.l0, if_neg (suf_nil h0 hd), some_bind, if_neg nft]
    exact ⟨_, rfl, h0, h1, by show _ :: l.drop i.toNat = _; rw [hd, mergeL]⟩
  | cons x t ih =>
    intro i a b h0 h1 hd
    obtain ⟨q1, q2, q3⟩ := suf_cons h0 hd z122
    rw [impl_add.l0, if_pos q1, if_pos ⟨h0, q1⟩, q2, some_bind]
    by_cases c : x.f0 ≤ b
    · rw [if_pos (decide_eq_true c), if_pos ⟨h0, q1⟩, wi64_in (n := i + 1) (by omega) (by omega), mergeL, if_pos c]
      exact ih (i + 1) _ _ (by omega) (by omega) q3
    · rw [if_neg (by simpa using c), mergeL, if_neg c]
      exact ⟨_, rfl, h0, h1, by show _ :: l.drop i.toNat = _; rw [hd]⟩
theorem plus_is (l : List Span) (a b : Int) (hl : l.length ≤ 1000) {m : Int} (hok : okF m l) : impl_add.f l a b = some (plusL a b l) := by
  unfold impl_add.f plusL
  by_cases z : a = b
  · rw [if_pos z, if_pos (by omega), if_pos z]
  · rw [if_neg z, if_neg z]
    have hfa := fore_aft a l
    have hlen : (fore a l).length + (aft a l).length = l.length := by rw [← List.length_append, hfa]
    have pl : impl_place_impl_Span_uint64_v2f145.f l a = some ((fore a l).length : Int) := by
      unfold impl_place_impl_Span_uint64_v2f145.f
      rw [spPlace_loop l a (fore a l).length (by omega) (fun i h0 hi => ?_) l.length 0 _ (by omega) (by omega) (by omega) (by omega) (by omega)]
      · rfl
      · by_cases c : i.toNat < (fore a l).length
        · have hm : rd z122 l i ∈ fore a l := by
            rw [← rd_get z122 l i (by omega)]
            have : l[i.toNat]'(by omega) = (fore a l)[i.toNat]'c := by
              conv => lhs; rw [show l[i.toNat]'(by omega) = (fore a l ++ aft a l)[i.toNat]'(by rw [List.length_append]; omega) by simp only [hfa]]
              rw [List.getElem_append_left c]
            rw [this]; exact List.getElem_mem c
          have := fore_lt a l _ hm
          omega
        · have hm : rd z122 l i ∈ aft a l := by
            rw [← rd_get z122 l i (by omega)]
            have : l[i.toNat]'(by omega) = (aft a l)[i.toNat - (fore a l).length]'(by omega) := by
              conv => lhs; rw [show l[i.toNat]'(by omega) = (fore a l ++ aft a l)[i.toNat]'(by rw [List.length_append]; omega) by simp only [hfa]]
              rw [List.getElem_append_right (by omega)]
            rw [this]; exact List.getElem_mem _
          have := aft_ge a l hok _ hm
          omega
    rw [pl, some_bind, if_pos (by omega), if_pos (by omega), Int.toNat_natCast]
    have ht : List.take (fore a l).length (fore a l ++ aft a l) = fore a l := List.take_left
    have hd : List.drop (fore a l).length (fore a l ++ aft a l) = aft a l := List.drop_left
    rw [hfa] at ht hd
    rw [ht]
    obtain ⟨y, y1, y2, y3, y4⟩ := spAdd_loop l (fore a l) hl (aft a l) ((fore a l).length : Int) a b (by omega) (by omega) (by rw [Int.toNat_natCast]; exact hd)
    rw [y1, some_bind, if_pos (by omega), if_pos ⟨y2, y3⟩, if_pos (by omega), ← y4, List.append_assoc, List.singleton_append]
theorem spAdd_is (l : List Span) (a b : Int) (hx : ∀ x ∈ l, 0 ≤ x.f0) (hs : setok l = true) (hab : a ≤ b) : impl_SpanAdd.f l a b = some (lim (plusL a b l)) := by
  unfold impl_SpanAdd.f
  obtain ⟨h1, h2⟩ := setok_of hs
  rw [valid_good l a b hx hs hab, some_bind, if_neg (by decide), plus_is l a b h1 h2, some_bind]
  exact lim_step _
theorem lspans_loop (l : List Span) (hl : l.length ≤ 1000000) (xs : List Span) : ∀ i : Int, 0 ≤ i → l.drop i.toNat = xs → laws_lSpans.l0 l l i = some (.a ()) := by
  induction xs with
  | nil => intro i h0 hd; rw [laws_lSpans.l0, if_neg (suf_nil h0 hd)]
  | cons x t ih =>
    intro i h0 hd
    obtain ⟨q1, q2, q3⟩ := suf_cons h0 hd z122
    rw [laws_lSpans.l0, if_pos q1, if_pos ⟨h0, q1⟩, if_pos ⟨h0, q1⟩, if_neg (by simp), wi64_in (n := i + 1) (by omega) (by omega)]
    exact ih (i + 1) (by omega) q3
theorem lspans_is (l : List Span) (hl : l.length ≤ 1000000) : laws_lSpans.f l l = some true := by
  unfold laws_lSpans.f
  rw [if_neg (by simp), lspans_loop l hl l 0 (by omega) rfl]; rfl
end Go.AK
