/- For every policy, turn, pick, list of paths and mask, the program's Pick is the reference's. No condition. -/
import Derived.Test.YtakeenidhkhmiaaPFnExactPickx9
import Derived.Test.YtakeenidhkhmiaaEvB
namespace Go.Proofs.Ytakeenidhkhmiaa.Pure
open Go.RowKit Go.Proofs.Ytakeenidhkhmiaa.PFnExactPick Go.Proofs.YtakeenidhkhmiaaW.PrintWords Go.Proofs.YtakeenidhkhmiaaW.PrintLast Go.Proofs.Ytakeenidhkhmiaa.Base
abbrev V := S86
abbrev LV := S117
theorem rdV_mid (pre xs : List V) (x : V) : rd_T86 (pre ++ x :: xs) (pre.length : Int) = x := by simp [rd_T86]
/-! ### bits -/
def bitAt (v : Int) (p : Int) : Bool := (v / 2 ^ p.toNat) % 2 == 1
theorem bit_loop (n : Nat) : ∀ (v p : Int) (i : Int), 0 ≤ v → v ≤ 255 → 0 ≤ i → i + n = p → p ≤ 8 → Ev (fun k => spec_l6Bit.l0 k v p i) ((v / 2 ^ n) % 2 == 1) := by
  induction n with
  | zero =>
    intro v p i h0 h1 hi hp h8
    refine ev_succ ?_; simp only [spec_l6Bit.l0]
    refine ev_neg (by omega) (ev_eq (Ev.now _) ?_)
    have : Int.tmod v 2 = v % 2 := Int.tmod_eq_emod_of_nonneg h0
    simp [this]
  | succ n ih =>
    intro v p i h0 h1 hi hp h8
    refine ev_succ ?_; simp only [spec_l6Bit.l0]
    refine ev_pos (by omega) ?_
    have e : Int.tdiv v 2 = v / 2 := Int.tdiv_eq_ediv_of_nonneg h0
    rw [e, w64_in (n := v / 2) (by omega) (by omega), w64_in (n := i + 1) (by omega) (by omega)]
    refine ev_eq (ih (v / 2) p (i + 1) (by omega) (by omega) (by omega) (by omega) h8) ?_
    rw [show v / 2 / 2 ^ n = v / 2 ^ (n + 1) by rw [Int.ediv_ediv_of_nonneg (by omega), Int.pow_succ, Int.mul_comm]]
theorem bit_is (v p : Int) (h0 : 0 ≤ v) (h1 : v ≤ 255) (hp : 0 ≤ p) (h8 : p ≤ 8) : Ev (fun k => spec_l6Bit.f k v p) (bitAt v p) := by
  unfold spec_l6Bit.f bitAt
  exact bit_loop p.toNat v p 0 h0 h1 (by omega) (by omega) h8

theorem bitAt_nat (n p : Nat) : bitAt (n : Int) (p : Int) = n.testBit p := by
  unfold bitAt
  rw [Nat.testBit_eq_decide_div_mod_eq, Int.toNat_natCast]
  have : ((n : Int) / 2 ^ p) % 2 = ((n / 2 ^ p % 2 : Nat) : Int) := by simp
  rw [this]
  have h : n / 2 ^ p % 2 < 2 := Nat.mod_lt _ (by omega)
  by_cases c : n / 2 ^ p % 2 = 1
  · simp [c]
  · have : n / 2 ^ p % 2 = 0 := by omega
    simp [this]
theorem and_nat (n m : Nat) (hn : n < 256) (hm : m < 256) : Go.bits .and .i64 (n : Int) (m : Int) = ((n &&& m : Nat) : Int) := by
  have hx : n &&& m ≤ n := Nat.and_le_left
  have h1 : (BitVec.ofInt 64 (n : Int)).toNat = n := by
    rw [BitVec.ofInt_natCast, BitVec.toNat_ofNat]; exact Nat.mod_eq_of_lt (by omega)
  have h2 : (BitVec.ofInt 64 (m : Int)).toNat = m := by
    rw [BitVec.ofInt_natCast, BitVec.toNat_ofNat]; exact Nat.mod_eq_of_lt (by omega)
  show IntKind.i64.wrap ((BitVec.ofInt 64 (n : Int) &&& BitVec.ofInt 64 (m : Int)).toNat : Int) = _
  rw [BitVec.toNat_and, h1, h2]
  simp only [IntKind.wrap, IntKind.bits, IntKind.signed]
  have : ((n &&& m : Nat) : Int) < 256 := by omega
  simp
  omega
theorem implBit (v p : Int) (h0 : 0 ≤ v) (h1 : v ≤ 255) (_hp : 0 ≤ p) (h8 : p ≤ 8) : (Go.bits .and .i64 (shr .i64 v p) 1 == 1) = bitAt v p := by
  rw [← shr_small (k := .i64) (x := v) (y := p) rfl (by show p ≤ 64; omega)]
  have hb : v / 2 ^ p.toNat ≤ v := Int.ediv_le_self _ h0
  obtain ⟨n, hn⟩ := Int.eq_ofNat_of_zero_le (show 0 ≤ v / 2 ^ p.toNat from Int.ediv_nonneg h0 (Int.le_of_lt (Int.pow_pos (by decide))))
  unfold bitAt
  rw [hn]
  have e := and_nat n 1 (by omega) (by omega)
  rw [Nat.and_one_is_mod] at e
  show (Go.bits .and .i64 (n : Int) ((1 : Nat) : Int) == 1) = _
  rw [e]; simp
/-! ### both sides' test of paths -/
def okP (x : V) : Prop := (x.f0 = 0 ∨ x.f0 = 1) ∧ 0 ≤ x.f1 ∧ x.f1 ≤ 16 ∧ 0 ≤ x.f2 ∧ x.f2 ≤ 16
set_option linter.unusedSimpArgs false in
theorem path_step (l : List V) (i : Int) (x : V) (h0 : 0 ≤ i) (h1 : i < (l.length : Int)) (hx : rd_T86 l i = x) :
    ((∀ k, spec_l6PathsOK.l0 (k+1) l i = some false) ∧ (∀ k, impl_validPaths.l0 (k+1) l (l.length : Int) i = some false)) ∨
    (okP x ∧ (∀ k, spec_l6PathsOK.l0 (k+1) l i = spec_l6PathsOK.l0 k l (wrap64 (i + 1))) ∧ (∀ k, impl_validPaths.l0 (k+1) l (l.length : Int) i = impl_validPaths.l0 k l (l.length : Int) (wrap64 (i + 1)))) := by
  obtain ⟨f0, f1, f2⟩ := x
  by_cases c0 : f0 ≠ 0 ∧ f0 ≠ 1
  · exact .inl ⟨fun k => by simp [spec_l6PathsOK.l0, hx, h0, h1, c0.1, c0.2], fun k => by simp [impl_validPaths.l0, hx, h0, h1, c0.1, c0.2]⟩
  have d : f0 = 0 ∨ f0 = 1 := by omega
  by_cases c1 : f1 < 0
  · refine .inl ⟨fun k => ?_, fun k => ?_⟩ <;> rcases d with rfl | rfl <;> simp [spec_l6PathsOK.l0, impl_validPaths.l0, hx, h0, h1, c1]
  by_cases c2 : f1 > 16
  · refine .inl ⟨fun k => ?_, fun k => ?_⟩ <;> rcases d with rfl | rfl <;> simp [spec_l6PathsOK.l0, impl_validPaths.l0, hx, h0, h1, c1, c2]
  by_cases c3 : f2 < 0
  · refine .inl ⟨fun k => ?_, fun k => ?_⟩ <;> rcases d with rfl | rfl <;> simp [spec_l6PathsOK.l0, impl_validPaths.l0, hx, h0, h1, c1, c2, c3]
  by_cases c4 : f2 > 16
  · refine .inl ⟨fun k => ?_, fun k => ?_⟩ <;> rcases d with rfl | rfl <;> simp [spec_l6PathsOK.l0, impl_validPaths.l0, hx, h0, h1, c1, c2, c3, c4]
  refine .inr ⟨⟨d, by simp only []; omega, by simp only []; omega, by simp only []; omega, by simp only []; omega⟩, fun k => ?_, fun k => ?_⟩ <;> rcases d with rfl | rfl <;> simp [spec_l6PathsOK.l0, impl_validPaths.l0, hx, h0, h1, c1, c2, c3, c4]
theorem paths_loop (xs : List V) : ∀ pre : List V, (pre ++ xs).length ≤ 8 →
    ∃ r : Bool, (r = true → ∀ x ∈ xs, okP x) ∧ Ev (fun k => spec_l6PathsOK.l0 k (pre ++ xs) (pre.length : Int)) r ∧ Ev (fun k => impl_validPaths.l0 k (pre ++ xs) ((pre ++ xs).length : Int) (pre.length : Int)) r := by
  induction xs with
  | nil =>
    intro pre hl
    refine ⟨true, fun _ x hx => by simp at hx, ?_, ?_⟩
    · refine ev_succ ?_; simp only [spec_l6PathsOK.l0]; exact ev_neg (by simp) (Ev.now _)
    · refine ev_succ ?_; simp only [impl_validPaths.l0]; exact ev_neg (by simp) (Ev.now _)
  | cons x t ih =>
    intro pre hl
    simp only [List.length_append, List.length_cons] at hl
    rcases path_step (pre ++ x :: t) (pre.length : Int) x (by omega) (by simp; omega) (rdV_mid pre t x) with ⟨s, i⟩ | ⟨g, s, i⟩
    · exact ⟨false, by simp, ev_succ (by simp only [s]; exact Ev.now _), ev_succ (by simp only [i]; exact Ev.now _)⟩
    · obtain ⟨r, hr, e1, e2⟩ := ih (pre ++ [x]) (by simp; omega)
      have en : wrap64 ((pre.length : Int) + 1) = ((pre ++ [x]).length : Int) := next_at pre x (by omega)
      rw [← snoc_cons pre t x] at e1 e2
      refine ⟨r, fun h y hy => ?_, ev_succ ?_, ev_succ ?_⟩
      · rcases List.mem_cons.1 hy with rfl | hy
        · exact g
        · exact hr h y hy
      · simp only [s, en]; exact e1
      · simp only [i, en]; exact e2
theorem paths_valid (l : List V) : ∃ r : Bool, (r = true → 1 ≤ l.length ∧ l.length ≤ 8 ∧ ∀ x ∈ l, okP x) ∧ Ev (fun k => spec_l6PathsOK.f k l) r ∧ Ev (fun k => impl_validPaths.f k l) r := by
  unfold spec_l6PathsOK.f impl_validPaths.f
  by_cases c : (l.length : Int) < 1
  · refine ⟨false, by simp, ev_pos c (ev_succ ?_), ev_pos c (ev_succ ?_)⟩
    · simp only [spec_l6PathsOK.j0]; exact ev_pos (by trivial) (Ev.now _)
    · simp only [impl_validPaths.j0]; exact ev_pos (by trivial) (Ev.now _)
  by_cases d : (l.length : Int) > 8
  · refine ⟨false, by simp, ev_neg c (ev_succ ?_), ev_neg c (ev_succ ?_)⟩
    · simp only [spec_l6PathsOK.j0]; exact ev_pos (by simpa using d) (Ev.now _)
    · simp only [impl_validPaths.j0]; exact ev_pos (by simpa using d) (Ev.now _)
  obtain ⟨r, hr, e1, e2⟩ := paths_loop l [] (by simp; omega)
  simp only [List.nil_append, List.length_nil, nat0] at e1 e2
  refine ⟨r, fun h => ⟨by omega, by omega, hr h⟩, ev_neg c (ev_succ ?_), ev_neg c (ev_succ ?_)⟩
  · simp only [spec_l6PathsOK.j0]; exact ev_neg (by simpa using d) e1
  · simp only [impl_validPaths.j0]; exact ev_neg (by simpa using d) e2

/-! ### who is eligible -/
def elig (m p : Int) (v : V) : Bool := decide (v.f0 = 1) && (decide (0 < v.f2) && !bitAt m p)
def el (m : Int) : Int → List V → List Int
  | _, [] => []
  | p, x :: t => if elig m p x = true then p :: el m (p + 1) t else el m (p + 1) t
theorem spec_el (m : Int) (h0 : 0 ≤ m) (h1 : m ≤ 255) (xs : List V) : ∀ (pre : List V) (out : List Int), (pre ++ xs).length ≤ 8 → out.length ≤ pre.length →
    Ev (fun k => spec_l6Eligible.l0 k (pre ++ xs) m out (pre.length : Int)) (out ++ el m (pre.length : Int) xs) := by
  induction xs with
  | nil => intro pre out hl _; refine ev_succ ?_; simp only [spec_l6Eligible.l0]; exact ev_neg (by simp) (ev_eq (Ev.now _) (by simp [el]))
  | cons x t ih =>
    intro pre out hl ho
    simp only [List.length_append, List.length_cons] at hl
    have no : elig m (pre.length : Int) x = false → Ev (fun k => spec_l6Eligible.l0 k (pre ++ x :: t) m out (wrap64 ((pre.length : Int) + 1))) (out ++ el m (pre.length : Int) (x :: t)) := by
      intro e
      rw [next_at pre x (by omega), snoc_cons pre t x]
      refine ev_eq (ih (pre ++ [x]) out (by simp; omega) (by simp; omega)) ?_
      simp [el, e]
    refine ev_succ ?_; simp only [spec_l6Eligible.l0]
    refine ev_pos (by simp; omega) (ev_pos (by omega) ?_)
    simp only [rdV_mid]
    by_cases c0 : x.f0 = 1
    · refine ev_pos c0 ?_
      by_cases c1 : x.f2 > 0
      · refine ev_pos c1 (ev_bind (bit_is m _ h0 h1 (by omega) (by omega)) ?_)
        cases b : bitAt m (pre.length : Int) with
        | true => exact ev_pos (by trivial) (no (by simp [elig, b]))
        | false =>
          refine ev_neg (by simp) (ev_pos (by omega) ?_)
          rw [next_at pre x (by omega), snoc_cons pre t x]
          refine ev_eq (ih (pre ++ [x]) (out ++ [(pre.length : Int)]) (by simp; omega) (by simp; omega)) ?_
          simp [el, elig, b, c0, show 0 < x.f2 from c1]
      · exact ev_neg c1 (no (by simp [elig]; omega))
    · exact ev_neg c0 (no (by simp [elig, c0]))

/-! ### the choice, as the program makes it -/
def ch (m : Int) (r : Int → V → Int) : List Int → Int → Int → List V → List Int
  | c, _, _, [] => c
  | c, w, p, x :: t => if elig m p x = true then (if c = [] ∨ r p x < w then ch m r [p] (r p x) (p + 1) t else if r p x = w then ch m r (c ++ [p]) w (p + 1) t else ch m r c w (p + 1) t) else ch m r c w (p + 1) t
def nextTurn (num turn n : Int) (c : List Int) : Int := if num = 1 ∧ 0 < c.length then Int.tmod (wrap64 (rd c 0 + 1)) n else turn
theorem ch_v113 (num turn pick m : Int) (r : Int → V → Int) (h0 : 0 ≤ m) (h1 : m ≤ 255) (N : Nat) (hN : 0 < N) (hr : ∀ p x, impl_policyOf_1.f p x.f0 x.f1 x.f2 (N : Int) turn pick = some (r p x)) (xs : List V) : ∀ (pre : List V) (c : List Int) (w : Int), (pre ++ xs).length = N → N ≤ 8 → c.length ≤ pre.length → (∀ x ∈ xs, okP x) →
    Ev (fun k => impl_choose_v113.l0 k num turn pick (pre ++ xs) m (N : Int) c w (N : Int) (pre.length : Int)) (ch m r c w (pre.length : Int) xs, nextTurn num turn (N : Int) (ch m r c w (pre.length : Int) xs)) := by
  induction xs with
  | nil =>
    intro pre c w hl h8 hc _
    simp only [List.append_nil] at hl
    refine ev_succ ?_; simp only [impl_choose_v113.l0]
    refine ev_neg (by omega) ?_
    rw [show ch m r c w (pre.length : Int) [] = c from by simp [ch]]
    by_cases n1 : num = 1
    · refine ev_pos n1 ?_
      by_cases c0 : 0 < c.length
      · refine ev_pos (by omega) (ev_pos (by omega) (ev_neg (by omega) (ev_eq (Ev.now _) ?_)))
        rw [nextTurn, if_pos ⟨n1, c0⟩]
      · refine ev_neg (by omega) (ev_eq (Ev.now _) ?_)
        rw [nextTurn, if_neg (fun g => c0 g.2)]
    · refine ev_neg n1 (ev_eq (Ev.now _) ?_)
      rw [nextTurn, if_neg (fun g => n1 g.1)]
  | cons x t ih =>
    intro pre c w hl h8 hc hx
    have ok := hx x (by simp)
    have hl' := hl
    simp only [List.length_append, List.length_cons] at hl
    have go : ∀ (c' : List Int) (w' : Int), c'.length ≤ pre.length + 1 → ch m r c w (pre.length : Int) (x :: t) = ch m r c' w' ((pre.length : Int) + 1) t →
        Ev (fun k => impl_choose_v113.l0 k num turn pick (pre ++ x :: t) m (N : Int) c' w' (N : Int) (wrap64 ((pre.length : Int) + 1))) (ch m r c w (pre.length : Int) (x :: t), nextTurn num turn (N : Int) (ch m r c w (pre.length : Int) (x :: t))) := by
      intro c' w' h e
      rw [e, next_at pre x (by omega), snoc_cons pre t x]
      have := ih (pre ++ [x]) c' w' (by simp; omega) h8 (by simpa using h) (fun y hy => hx y (by simp [hy]))
      simpa using this
    have no : elig m (pre.length : Int) x = false → Ev (fun k => impl_choose_v113.j1 k num turn pick (pre ++ x :: t) m (N : Int) c w (pre.length : Int) (N : Int) (pre.length : Int) true x.f0 x.f1 x.f2) (ch m r c w (pre.length : Int) (x :: t), nextTurn num turn (N : Int) (ch m r c w (pre.length : Int) (x :: t))) := by
      intro e
      refine ev_succ ?_; simp only [impl_choose_v113.j1]
      exact ev_pos (by trivial) (go c w (by omega) (by simp [ch, e]))
    refine ev_succ ?_; simp only [impl_choose_v113.l0]
    refine ev_pos (by omega) (ev_pos (by omega) (ev_pos (by omega) ?_))
    simp only [rdV_mid]
    by_cases c0 : x.f0 = 1
    · refine ev_pos c0 ?_
      by_cases c1 : x.f2 = 0
      · exact ev_pos c1 (no (by simp [elig, c1]))
      · refine ev_neg c1 ?_
        rw [implBit m _ h0 h1 (by omega) (by omega)]
        cases b : bitAt m (pre.length : Int) with
        | true => exact no (by simp [elig, b])
        | false =>
          have pos : 0 < x.f2 := by have := ok.2.2.2.1; omega
          have e : elig m (pre.length : Int) x = true := by simp [elig, b, c0, pos]
          refine ev_succ ?_; simp only [impl_choose_v113.j1, hr]
          refine ev_neg (by simp) (ev_some ?_)
          by_cases z : c = []
          · subst z
            refine ev_pos (by simp) (ev_succ ?_); simp only [impl_choose_v113.j2]
            exact ev_pos (by trivial) (go [(pre.length : Int)] (r (pre.length : Int) x) (by simp) (by simp [ch, e]))
          · refine ev_neg (by simpa using z) (ev_succ ?_); simp only [impl_choose_v113.j2]
            by_cases lt : r (pre.length : Int) x < w
            · exact ev_pos (by simpa using lt) (go [(pre.length : Int)] (r (pre.length : Int) x) (by simp) (by simp [ch, e, lt]))
            · refine ev_neg (by simpa using lt) ?_
              by_cases eq : r (pre.length : Int) x = w
              · exact ev_pos eq (ev_pos (by omega) (go (c ++ [(pre.length : Int)]) w (by simp; omega) (by simp [ch, e, z, eq])))
              · exact ev_neg eq (go c w (by omega) (by simp [ch, e, z, lt, eq]))
    · exact ev_neg c0 (no (by simp [elig, c0]))
theorem ch_v114 (num turn pick m : Int) (r : Int → V → Int) (h0 : 0 ≤ m) (h1 : m ≤ 255) (N : Nat) (hN : 0 < N) (hr : ∀ p x, impl_policyOf_2.f p x.f0 x.f1 x.f2 (N : Int) turn pick = some (r p x)) (xs : List V) : ∀ (pre : List V) (c : List Int) (w : Int), (pre ++ xs).length = N → N ≤ 8 → c.length ≤ pre.length → (∀ x ∈ xs, okP x) →
    Ev (fun k => impl_choose_v114.l0 k num turn pick (pre ++ xs) m (N : Int) c w (N : Int) (pre.length : Int)) (ch m r c w (pre.length : Int) xs, nextTurn num turn (N : Int) (ch m r c w (pre.length : Int) xs)) := by
  induction xs with
  | nil =>
    intro pre c w hl h8 hc _
    simp only [List.append_nil] at hl
    refine ev_succ ?_; simp only [impl_choose_v114.l0]
    refine ev_neg (by omega) ?_
    rw [show ch m r c w (pre.length : Int) [] = c from by simp [ch]]
    by_cases n1 : num = 1
    · refine ev_pos n1 ?_
      by_cases c0 : 0 < c.length
      · refine ev_pos (by omega) (ev_pos (by omega) (ev_neg (by omega) (ev_eq (Ev.now _) ?_)))
        rw [nextTurn, if_pos ⟨n1, c0⟩]
      · refine ev_neg (by omega) (ev_eq (Ev.now _) ?_)
        rw [nextTurn, if_neg (fun g => c0 g.2)]
    · refine ev_neg n1 (ev_eq (Ev.now _) ?_)
      rw [nextTurn, if_neg (fun g => n1 g.1)]
  | cons x t ih =>
    intro pre c w hl h8 hc hx
    have ok := hx x (by simp)
    have hl' := hl
    simp only [List.length_append, List.length_cons] at hl
    have go : ∀ (c' : List Int) (w' : Int), c'.length ≤ pre.length + 1 → ch m r c w (pre.length : Int) (x :: t) = ch m r c' w' ((pre.length : Int) + 1) t →
        Ev (fun k => impl_choose_v114.l0 k num turn pick (pre ++ x :: t) m (N : Int) c' w' (N : Int) (wrap64 ((pre.length : Int) + 1))) (ch m r c w (pre.length : Int) (x :: t), nextTurn num turn (N : Int) (ch m r c w (pre.length : Int) (x :: t))) := by
      intro c' w' h e
      rw [e, next_at pre x (by omega), snoc_cons pre t x]
      have := ih (pre ++ [x]) c' w' (by simp; omega) h8 (by simpa using h) (fun y hy => hx y (by simp [hy]))
      simpa using this
    have no : elig m (pre.length : Int) x = false → Ev (fun k => impl_choose_v114.j1 k num turn pick (pre ++ x :: t) m (N : Int) c w (pre.length : Int) (N : Int) (pre.length : Int) true x.f0 x.f1 x.f2) (ch m r c w (pre.length : Int) (x :: t), nextTurn num turn (N : Int) (ch m r c w (pre.length : Int) (x :: t))) := by
      intro e
      refine ev_succ ?_; simp only [impl_choose_v114.j1]
      exact ev_pos (by trivial) (go c w (by omega) (by simp [ch, e]))
    refine ev_succ ?_; simp only [impl_choose_v114.l0]
    refine ev_pos (by omega) (ev_pos (by omega) (ev_pos (by omega) ?_))
    simp only [rdV_mid]
    by_cases c0 : x.f0 = 1
    · refine ev_pos c0 ?_
      by_cases c1 : x.f2 = 0
      · exact ev_pos c1 (no (by simp [elig, c1]))
      · refine ev_neg c1 ?_
        rw [implBit m _ h0 h1 (by omega) (by omega)]
        cases b : bitAt m (pre.length : Int) with
        | true => exact no (by simp [elig, b])
        | false =>
          have pos : 0 < x.f2 := by have := ok.2.2.2.1; omega
          have e : elig m (pre.length : Int) x = true := by simp [elig, b, c0, pos]
          refine ev_succ ?_; simp only [impl_choose_v114.j1, hr]
          refine ev_neg (by simp) (ev_some ?_)
          by_cases z : c = []
          · subst z
            refine ev_pos (by simp) (ev_succ ?_); simp only [impl_choose_v114.j2]
            exact ev_pos (by trivial) (go [(pre.length : Int)] (r (pre.length : Int) x) (by simp) (by simp [ch, e]))
          · refine ev_neg (by simpa using z) (ev_succ ?_); simp only [impl_choose_v114.j2]
            by_cases lt : r (pre.length : Int) x < w
            · exact ev_pos (by simpa using lt) (go [(pre.length : Int)] (r (pre.length : Int) x) (by simp) (by simp [ch, e, lt]))
            · refine ev_neg (by simpa using lt) ?_
              by_cases eq : r (pre.length : Int) x = w
              · exact ev_pos eq (ev_pos (by omega) (go (c ++ [(pre.length : Int)]) w (by simp; omega) (by simp [ch, e, z, eq])))
              · exact ev_neg eq (go c w (by omega) (by simp [ch, e, z, lt, eq]))
    · exact ev_neg c0 (no (by simp [elig, c0]))
theorem ch_v115 (num turn pick m : Int) (r : Int → V → Int) (h0 : 0 ≤ m) (h1 : m ≤ 255) (N : Nat) (hN : 0 < N) (hr : ∀ p x, impl_policyOf_3.f p x.f0 x.f1 x.f2 (N : Int) turn pick = some (r p x)) (xs : List V) : ∀ (pre : List V) (c : List Int) (w : Int), (pre ++ xs).length = N → N ≤ 8 → c.length ≤ pre.length → (∀ x ∈ xs, okP x) →
    Ev (fun k => impl_choose_v115.l0 k num turn pick (pre ++ xs) m (N : Int) c w (N : Int) (pre.length : Int)) (ch m r c w (pre.length : Int) xs, nextTurn num turn (N : Int) (ch m r c w (pre.length : Int) xs)) := by
  induction xs with
  | nil =>
    intro pre c w hl h8 hc _
    simp only [List.append_nil] at hl
    refine ev_succ ?_; simp only [impl_choose_v115.l0]
    refine ev_neg (by omega) ?_
    rw [show ch m r c w (pre.length : Int) [] = c from by simp [ch]]
    by_cases n1 : num = 1
    · refine ev_pos n1 ?_
      by_cases c0 : 0 < c.length
      · refine ev_pos (by omega) (ev_pos (by omega) (ev_neg (by omega) (ev_eq (Ev.now _) ?_)))
        rw [nextTurn, if_pos ⟨n1, c0⟩]
      · refine ev_neg (by omega) (ev_eq (Ev.now _) ?_)
        rw [nextTurn, if_neg (fun g => c0 g.2)]
    · refine ev_neg n1 (ev_eq (Ev.now _) ?_)
      rw [nextTurn, if_neg (fun g => n1 g.1)]
  | cons x t ih =>
    intro pre c w hl h8 hc hx
    have ok := hx x (by simp)
    have hl' := hl
    simp only [List.length_append, List.length_cons] at hl
    have go : ∀ (c' : List Int) (w' : Int), c'.length ≤ pre.length + 1 → ch m r c w (pre.length : Int) (x :: t) = ch m r c' w' ((pre.length : Int) + 1) t →
        Ev (fun k => impl_choose_v115.l0 k num turn pick (pre ++ x :: t) m (N : Int) c' w' (N : Int) (wrap64 ((pre.length : Int) + 1))) (ch m r c w (pre.length : Int) (x :: t), nextTurn num turn (N : Int) (ch m r c w (pre.length : Int) (x :: t))) := by
      intro c' w' h e
      rw [e, next_at pre x (by omega), snoc_cons pre t x]
      have := ih (pre ++ [x]) c' w' (by simp; omega) h8 (by simpa using h) (fun y hy => hx y (by simp [hy]))
      simpa using this
    have no : elig m (pre.length : Int) x = false → Ev (fun k => impl_choose_v115.j1 k num turn pick (pre ++ x :: t) m (N : Int) c w (pre.length : Int) (N : Int) (pre.length : Int) true x.f0 x.f1 x.f2) (ch m r c w (pre.length : Int) (x :: t), nextTurn num turn (N : Int) (ch m r c w (pre.length : Int) (x :: t))) := by
      intro e
      refine ev_succ ?_; simp only [impl_choose_v115.j1]
      exact ev_pos (by trivial) (go c w (by omega) (by simp [ch, e]))
    refine ev_succ ?_; simp only [impl_choose_v115.l0]
    refine ev_pos (by omega) (ev_pos (by omega) (ev_pos (by omega) ?_))
    simp only [rdV_mid]
    by_cases c0 : x.f0 = 1
    · refine ev_pos c0 ?_
      by_cases c1 : x.f2 = 0
      · exact ev_pos c1 (no (by simp [elig, c1]))
      · refine ev_neg c1 ?_
        rw [implBit m _ h0 h1 (by omega) (by omega)]
        cases b : bitAt m (pre.length : Int) with
        | true => exact no (by simp [elig, b])
        | false =>
          have pos : 0 < x.f2 := by have := ok.2.2.2.1; omega
          have e : elig m (pre.length : Int) x = true := by simp [elig, b, c0, pos]
          refine ev_succ ?_; simp only [impl_choose_v115.j1, hr]
          refine ev_neg (by simp) (ev_some ?_)
          by_cases z : c = []
          · subst z
            refine ev_pos (by simp) (ev_succ ?_); simp only [impl_choose_v115.j2]
            exact ev_pos (by trivial) (go [(pre.length : Int)] (r (pre.length : Int) x) (by simp) (by simp [ch, e]))
          · refine ev_neg (by simpa using z) (ev_succ ?_); simp only [impl_choose_v115.j2]
            by_cases lt : r (pre.length : Int) x < w
            · exact ev_pos (by simpa using lt) (go [(pre.length : Int)] (r (pre.length : Int) x) (by simp) (by simp [ch, e, lt]))
            · refine ev_neg (by simpa using lt) ?_
              by_cases eq : r (pre.length : Int) x = w
              · exact ev_pos eq (ev_pos (by omega) (go (c ++ [(pre.length : Int)]) w (by simp; omega) (by simp [ch, e, z, eq])))
              · exact ev_neg eq (go c w (by omega) (by simp [ch, e, z, lt, eq]))
    · exact ev_neg c0 (no (by simp [elig, c0]))
theorem ch_v116 (num turn pick m : Int) (r : Int → V → Int) (h0 : 0 ≤ m) (h1 : m ≤ 255) (N : Nat) (hN : 0 < N) (hr : ∀ p x, impl_policyOf_4.f p x.f0 x.f1 x.f2 (N : Int) turn pick = some (r p x)) (xs : List V) : ∀ (pre : List V) (c : List Int) (w : Int), (pre ++ xs).length = N → N ≤ 8 → c.length ≤ pre.length → (∀ x ∈ xs, okP x) →
    Ev (fun k => impl_choose_v116.l0 k num turn pick (pre ++ xs) m (N : Int) c w (N : Int) (pre.length : Int)) (ch m r c w (pre.length : Int) xs, nextTurn num turn (N : Int) (ch m r c w (pre.length : Int) xs)) := by
  induction xs with
  | nil =>
    intro pre c w hl h8 hc _
    simp only [List.append_nil] at hl
    refine ev_succ ?_; simp only [impl_choose_v116.l0]
    refine ev_neg (by omega) ?_
    rw [show ch m r c w (pre.length : Int) [] = c from by simp [ch]]
    by_cases n1 : num = 1
    · refine ev_pos n1 ?_
      by_cases c0 : 0 < c.length
      · refine ev_pos (by omega) (ev_pos (by omega) (ev_neg (by omega) (ev_eq (Ev.now _) ?_)))
        rw [nextTurn, if_pos ⟨n1, c0⟩]
      · refine ev_neg (by omega) (ev_eq (Ev.now _) ?_)
        rw [nextTurn, if_neg (fun g => c0 g.2)]
    · refine ev_neg n1 (ev_eq (Ev.now _) ?_)
      rw [nextTurn, if_neg (fun g => n1 g.1)]
  | cons x t ih =>
    intro pre c w hl h8 hc hx
    have ok := hx x (by simp)
    have hl' := hl
    simp only [List.length_append, List.length_cons] at hl
    have go : ∀ (c' : List Int) (w' : Int), c'.length ≤ pre.length + 1 → ch m r c w (pre.length : Int) (x :: t) = ch m r c' w' ((pre.length : Int) + 1) t →
        Ev (fun k => impl_choose_v116.l0 k num turn pick (pre ++ x :: t) m (N : Int) c' w' (N : Int) (wrap64 ((pre.length : Int) + 1))) (ch m r c w (pre.length : Int) (x :: t), nextTurn num turn (N : Int) (ch m r c w (pre.length : Int) (x :: t))) := by
      intro c' w' h e
      rw [e, next_at pre x (by omega), snoc_cons pre t x]
      have := ih (pre ++ [x]) c' w' (by simp; omega) h8 (by simpa using h) (fun y hy => hx y (by simp [hy]))
      simpa using this
    have no : elig m (pre.length : Int) x = false → Ev (fun k => impl_choose_v116.j1 k num turn pick (pre ++ x :: t) m (N : Int) c w (pre.length : Int) (N : Int) (pre.length : Int) true x.f0 x.f1 x.f2) (ch m r c w (pre.length : Int) (x :: t), nextTurn num turn (N : Int) (ch m r c w (pre.length : Int) (x :: t))) := by
      intro e
      refine ev_succ ?_; simp only [impl_choose_v116.j1]
      exact ev_pos (by trivial) (go c w (by omega) (by simp [ch, e]))
    refine ev_succ ?_; simp only [impl_choose_v116.l0]
    refine ev_pos (by omega) (ev_pos (by omega) (ev_pos (by omega) ?_))
    simp only [rdV_mid]
    by_cases c0 : x.f0 = 1
    · refine ev_pos c0 ?_
      by_cases c1 : x.f2 = 0
      · exact ev_pos c1 (no (by simp [elig, c1]))
      · refine ev_neg c1 ?_
        rw [implBit m _ h0 h1 (by omega) (by omega)]
        cases b : bitAt m (pre.length : Int) with
        | true => exact no (by simp [elig, b])
        | false =>
          have pos : 0 < x.f2 := by have := ok.2.2.2.1; omega
          have e : elig m (pre.length : Int) x = true := by simp [elig, b, c0, pos]
          refine ev_succ ?_; simp only [impl_choose_v116.j1, hr]
          refine ev_neg (by simp) (ev_some ?_)
          by_cases z : c = []
          · subst z
            refine ev_pos (by simp) (ev_succ ?_); simp only [impl_choose_v116.j2]
            exact ev_pos (by trivial) (go [(pre.length : Int)] (r (pre.length : Int) x) (by simp) (by simp [ch, e]))
          · refine ev_neg (by simpa using z) (ev_succ ?_); simp only [impl_choose_v116.j2]
            by_cases lt : r (pre.length : Int) x < w
            · exact ev_pos (by simpa using lt) (go [(pre.length : Int)] (r (pre.length : Int) x) (by simp) (by simp [ch, e, lt]))
            · refine ev_neg (by simpa using lt) ?_
              by_cases eq : r (pre.length : Int) x = w
              · exact ev_pos eq (ev_pos (by omega) (go (c ++ [(pre.length : Int)]) w (by simp; omega) (by simp [ch, e, z, eq])))
              · exact ev_neg eq (go c w (by omega) (by simp [ch, e, z, lt, eq]))
    · exact ev_neg c0 (no (by simp [elig, c0]))

/-! ### the choice over the eligible numbers alone -/
def chI (r : Int → Int) : List Int → Int → List Int → List Int
  | c, _, [] => c
  | c, w, p :: t => if c = [] ∨ r p < w then chI r [p] (r p) t else if r p = w then chI r (c ++ [p]) w t else chI r c w t
theorem ch_el (m : Int) (r : Int → V → Int) (xs : List V) : ∀ (pre : List V) (c : List Int) (w : Int),
    ch m r c w (pre.length : Int) xs = chI (fun q => r q (rd_T86 (pre ++ xs) q)) c w (el m (pre.length : Int) xs) := by
  induction xs with
  | nil => intro pre c w; simp [ch, el, chI]
  | cons x t ih =>
    intro pre c w
    have h := fun c w => ih (pre ++ [x]) c w
    simp only [List.length_append, List.length_cons, List.length_nil, List.append_assoc, List.singleton_append] at h
    simp only [ch, el]
    by_cases e : elig m (pre.length : Int) x = true
    · simp only [if_pos e, chI, rdV_mid]
      split
      · simpa using h _ _
      · split
        · simpa using h _ _
        · simpa using h _ _
    · simp only [if_neg e]; simpa using h c w
def bestF (s : Int → Int) : Int → List Int → Int
  | b, [] => b
  | b, p :: t => if s p < s b then bestF s p t else bestF s b t
theorem chI_best (s r : Int → Int) (ys : List Int) : ∀ b : Int, (b :: ys).Pairwise (· < ·) → (∀ p ∈ b :: ys, ∀ q ∈ b :: ys, (s p < s q ↔ r p < r q)) → (∀ p ∈ b :: ys, ∀ q ∈ b :: ys, r p = r q → p = q) →
    chI r [b] (r b) ys = [bestF s b ys] := by
  induction ys with
  | nil => intro b _ _ _; rfl
  | cons p t ih =>
    intro b hp ho hi
    have hbp : b < p := (List.pairwise_cons.1 hp).1 p (by simp)
    have pt : (p :: t).Pairwise (· < ·) := (List.pairwise_cons.1 hp).2
    have bt : (b :: t).Pairwise (· < ·) := List.pairwise_cons.2 ⟨fun z hz => (List.pairwise_cons.1 hp).1 z (by simp [hz]), (List.pairwise_cons.1 pt).2⟩
    have in1 : ∀ z ∈ p :: t, z ∈ b :: p :: t := fun z hz => List.mem_cons_of_mem _ hz
    have in2 : ∀ z ∈ b :: t, z ∈ b :: p :: t := fun z hz => by
      rcases List.mem_cons.1 hz with rfl | hz
      · simp
      · simp [hz]
    simp only [chI, bestF]
    by_cases c : s p < s b
    · have c' := (ho p (by simp) b (by simp)).1 c
      rw [if_pos (.inr c'), if_pos c]
      exact ih p pt (fun x hx y hy => ho x (in1 x hx) y (in1 y hy)) (fun x hx y hy => hi x (in1 x hx) y (in1 y hy))
    · have c' : ¬ r p < r b := fun g => c ((ho p (by simp) b (by simp)).2 g)
      have ne : ¬ r p = r b := fun g => by have := hi p (by simp) b (by simp) g; omega
      rw [if_neg (by simp [c']), if_neg ne, if_neg c]
      exact ih b bt (fun x hx y hy => ho x (in2 x hx) y (in2 y hy)) (fun x hx y hy => hi x (in2 x hx) y (in2 y hy))
theorem chI_zero (ys : List Int) : ∀ c : List Int, chI (fun _ => 0) c 0 ys = c ++ ys := by
  induction ys with
  | nil => intro c; simp [chI]
  | cons p t ih =>
    intro c
    simp only [chI]
    by_cases z : c = []
    · subst z; rw [if_pos (.inl rfl), ih]; rfl
    · rw [if_neg (by simp [z]), if_pos trivial, ih]; simp
theorem el_range (m : Int) (xs : List V) : ∀ i : Int, (∀ p ∈ el m i xs, i ≤ p ∧ p < i + xs.length) ∧ (el m i xs).Pairwise (· < ·) := by
  induction xs with
  | nil => intro i; simp [el]
  | cons x t ih =>
    intro i
    obtain ⟨h1, h2⟩ := ih (i + 1)
    simp only [el]
    split
    · refine ⟨fun p hp => ?_, List.pairwise_cons.2 ⟨fun p hp => by have := h1 p hp; omega, h2⟩⟩
      rcases List.mem_cons.1 hp with rfl | hp
      · simp only [List.length_cons]; omega
      · have := h1 p hp; simp only [List.length_cons]; omega
    · exact ⟨fun p hp => by have := h1 p hp; simp only [List.length_cons]; omega, h2⟩

/-! ### the reference's choice -/
theorem spec_best (pol turn pick : Int) (l : List V) (hl : 0 < l.length) (s : Int → Int) (all : List Int) (h8 : all.length ≤ 8) (hs : ∀ p ∈ all, spec_l6Rank.f pol turn pick l p = some (s p)) (ys : List Int) : ∀ (pre : List Int) (b : Int), pre ++ ys = all → b ∈ all →
    Ev (fun k => spec_l6Pick.l0 k pol turn pick l all b (pre.length : Int)) ([bestF s b ys], nextTurn pol turn (l.length : Int) [bestF s b ys]) := by
  induction ys with
  | nil =>
    intro pre b e hb
    simp only [List.append_nil] at e
    refine ev_succ ?_; simp only [spec_l6Pick.l0]
    refine ev_neg (by rw [e]; omega) ?_
    simp only [bestF]
    by_cases n1 : pol = 1
    · refine ev_pos n1 (ev_neg (by omega) (ev_eq (Ev.now _) ?_))
      rw [nextTurn, if_pos ⟨n1, by simp⟩]; simp [rd]
    · refine ev_neg n1 (ev_eq (Ev.now _) ?_)
      rw [nextTurn, if_neg (fun g => n1 g.1)]
  | cons p t ih =>
    intro pre b e hb
    have le : pre.length < all.length := by rw [← e]; simp
    have hp : p ∈ all := by rw [← e]; simp
    refine ev_succ ?_; simp only [spec_l6Pick.l0]
    refine ev_pos (by omega) (ev_pos (by omega) ?_)
    have er : rd all (pre.length : Int) = p := by rw [← e]; exact rd_mid pre t p
    rw [er, hs p hp, hs b hb, next_at pre p (by omega)]
    refine ev_some (ev_some ?_)
    simp only [bestF]
    by_cases c : s p < s b
    · rw [if_pos c]; exact ev_pos c (ih (pre ++ [p]) p (by simpa using e) hp)
    · rw [if_neg c]; exact ev_neg c (ih (pre ++ [p]) b (by simpa using e) hb)
theorem agree (pol turn pick m : Int) (l : List V) (h0 : 0 ≤ m) (h1 : m ≤ 255) (hl : 0 < l.length) (h8 : l.length ≤ 8) (h3 : pol ≠ 3) (s r : Int → Int) (hs : ∀ p, 0 ≤ p → p < (l.length : Int) → spec_l6Rank.f pol turn pick l p = some (s p))
    (ho : ∀ p q, 0 ≤ p → p < (l.length : Int) → 0 ≤ q → q < (l.length : Int) → (s p < s q ↔ r p < r q)) (hi : ∀ p q, 0 ≤ p → p < (l.length : Int) → 0 ≤ q → q < (l.length : Int) → r p = r q → p = q) :
    Ev (fun k => spec_l6Pick.f k pol turn pick l m) (chI r [] 0 (el m 0 l), nextTurn pol turn (l.length : Int) (chI r [] 0 (el m 0 l))) := by
  have sp := spec_el m h0 h1 l [] [] (by simpa using h8) (by simp)
  simp only [List.nil_append, List.length_nil, nat0] at sp
  obtain ⟨rg, pw⟩ := el_range m l 0
  have len : (el m 0 l).length ≤ 8 := by
    have : ∀ (xs : List V) (i : Int), (el m i xs).length ≤ xs.length := by
      intro xs; induction xs with
      | nil => intro i; simp [el]
      | cons x t ih => intro i; have := ih (i + 1); simp only [el]; split <;> simp only [List.length_cons] <;> omega
    exact Nat.le_trans (this l 0) h8
  unfold spec_l6Pick.f
  refine ev_bind (by unfold spec_l6Eligible.f; exact sp) (ev_neg h3 ?_)
  cases hL : el m 0 l with
  | nil =>
    refine ev_succ ?_; simp only [spec_l6Pick.j0]
    exact ev_pos (by simp) (ev_eq (Ev.now _) (by simp [chI, nextTurn]))
  | cons b ys =>
    rw [hL] at rg pw len
    refine ev_succ ?_; simp only [spec_l6Pick.j0]
    refine ev_neg (by simp; omega) (ev_pos (by simp) ?_)
    have e : chI r [] 0 (b :: ys) = [bestF s b ys] := by
      simp only [chI]
      rw [if_pos (.inl trivial)]
      exact chI_best s r ys b pw (fun p hp q hq => ho p q (rg p hp).1 (by have := (rg p hp).2; omega) (rg q hq).1 (by have := (rg q hq).2; omega)) (fun p hp q hq => hi p q (rg p hp).1 (by have := (rg p hp).2; omega) (rg q hq).1 (by have := (rg q hq).2; omega))
    rw [e]
    have b0 : rd (b :: ys) 0 = b := by simp [rd]
    rw [b0]
    have := spec_best pol turn pick l hl s (b :: ys) len (fun p hp => hs p (rg p hp).1 (by have := (rg p hp).2; omega)) (b :: ys) [] b rfl (by simp)
    have bb : bestF s b (b :: ys) = bestF s b ys := by simp [bestF]
    rw [bb] at this
    simpa using this

theorem mem_rd (l : List V) (p : Int) (h0 : 0 ≤ p) (h1 : p < (l.length : Int)) : rd_T86 l p ∈ l := by
  obtain ⟨j, rfl⟩ := Int.eq_ofNat_of_zero_le h0
  have hj : j < l.length := by omega
  have : rd_T86 l (j : Int) = l[j] := by simp [rd_T86, List.getD, hj]
  rw [this]; exact List.getElem_mem hj
theorem round_same (turn N p : Int) (ht : 0 ≤ turn) (ht' : turn < N) (hN : N ≤ 8) (h0 : 0 ≤ p) (h1 : p < N) : Int.tmod (wrap64 ((wrap64 (p - turn)) + N)) N = (p - turn + N) % N := by
  rw [w64_in (n := p - turn) (by omega) (by omega), w64_in (by omega) (by omega), Int.tmod_eq_emod_of_nonneg (by omega)]
theorem round_inj (turn N p q : Int) (ht : 0 ≤ turn) (ht' : turn < N) (hN : N ≤ 8) (h0 : 0 ≤ p) (h1 : p < N) (g0 : 0 ≤ q) (g1 : q < N) (h : (p - turn + N) % N = (q - turn + N) % N) : p = q := by
  have : N = 1 ∨ N = 2 ∨ N = 3 ∨ N = 4 ∨ N = 5 ∨ N = 6 ∨ N = 7 ∨ N = 8 := by omega
  rcases this with rfl | rfl | rfl | rfl | rfl | rfl | rfl | rfl <;> omega
theorem back_same (N a b p q : Int) (hN0 : 0 < N) (hN : N ≤ 8) (h0 : 0 ≤ p) (h1 : p < N) (g0 : 0 ≤ q) (g1 : q < N) : (a * N + p < b * N + q ↔ a * 8 + p < b * 8 + q) := by
  have : N = 1 ∨ N = 2 ∨ N = 3 ∨ N = 4 ∨ N = 5 ∨ N = 6 ∨ N = 7 ∨ N = 8 := by omega
  rcases this with rfl | rfl | rfl | rfl | rfl | rfl | rfl | rfl <;> omega

theorem el_len (m : Int) (xs : List V) : ∀ i : Int, (el m i xs).length ≤ xs.length := by
  induction xs with
  | nil => intro i; simp [el]
  | cons x t ih => intro i; have := ih (i + 1); simp only [el]; split <;> simp only [List.length_cons] <;> omega
theorem chI_len (r : Int → Int) (ys : List Int) : ∀ (c : List Int) (w : Int), (chI r c w ys).length ≤ c.length + ys.length := by
  induction ys with
  | nil => intro c w; simp [chI]
  | cons p t ih =>
    intro c w
    simp only [chI, List.length_cons]
    split
    · have := ih [p] (r p); simp only [List.length_cons, List.length_nil] at this; omega
    · split
      · have := ih (c ++ [p]) w; simp only [List.length_append, List.length_cons, List.length_nil] at this; omega
      · have := ih c w; omega
/-- Both choose alike. -/
theorem choose_both (pol turn pick m : Int) (l : List V) (nm : ByteArray) (hp : 1 ≤ pol ∧ pol ≤ 4) (ht : 0 ≤ turn ∧ turn < (l.length : Int)) (h0 : 0 ≤ m) (h1 : m ≤ 255) (h8 : l.length ≤ 8) (ok : ∀ x ∈ l, okP x) :
    ∃ R : List Int × Int, R.1.length ≤ 8 ∧ Ev (fun k => spec_l6Pick.f k pol turn pick l m) R ∧ Ev (fun k => impl_choose.f k nm (112 + pol) pol turn pick l m) R := by
  have hl : 0 < l.length := by omega
  have ln : ∀ r : Int → Int, (chI r [] 0 (el m 0 l)).length ≤ 8 := fun r => by have a := chI_len r (el m 0 l) [] 0; have b := el_len m l 0; simp only [List.length_nil] at a; omega
  unfold impl_choose.f
  have hpol : pol = 1 ∨ pol = 2 ∨ pol = 3 ∨ pol = 4 := by omega
  rcases hpol with rfl | rfl | rfl | rfl
  · let r : Int → Int := fun p => Int.tmod (wrap64 ((wrap64 (p - turn)) + (l.length : Int))) (l.length : Int)
    refine ⟨_, ln r, agree 1 turn pick m l h0 h1 hl h8 (by decide) r r (fun p _ _ => ?_) (fun _ _ _ _ _ _ => Iff.rfl) (fun p q a b c d e => ?_), ev_pos (by decide) ?_⟩
    · unfold spec_l6Rank.f; rw [if_pos rfl, if_neg (by omega)]
    · simp only [r] at e
      rw [round_same turn _ p ht.1 ht.2 (by omega) a b, round_same turn _ q ht.1 ht.2 (by omega) c d] at e
      exact round_inj turn _ p q ht.1 ht.2 (by omega) a b c d e
    · have := ch_v113 1 turn pick m (fun p _ => r p) h0 h1 l.length hl (fun p x => by unfold impl_policyOf_1.f; rw [if_neg (by omega)]) l [] [] 0 (by simp) h8 (by simp) ok
      rw [ch_el m (fun p _ => r p) l [] [] 0] at this
      simpa only [List.nil_append, List.length_nil, nat0, impl_choose_v113.f] using this
  · let r : Int → V → Int := fun p x => wrap64 ((wrap64 (x.f1 * 8)) + p)
    let s : Int → Int := fun p => wrap64 ((wrap64 ((rd_T86 l p).f1 * (l.length : Int))) + p)
    have rw8 : ∀ p, 0 ≤ p → p < (l.length : Int) → r p (rd_T86 l p) = (rd_T86 l p).f1 * 8 + p := by
      intro p a b
      have o := ok _ (mem_rd l p a b)
      unfold okP at o
      simp only [r]
      rw [w64_in (n := (rd_T86 l p).f1 * 8) (by omega) (by omega), w64_in (by omega) (by omega)]
    have rws : ∀ p, 0 ≤ p → p < (l.length : Int) → s p = (rd_T86 l p).f1 * (l.length : Int) + p := by
      intro p a b
      have o := ok _ (mem_rd l p a b)
      unfold okP at o
      have u : (rd_T86 l p).f1 * (l.length : Int) ≤ 16 * 8 := Int.mul_le_mul (by omega) (by omega) (by omega) (by omega)
      have v : 0 ≤ (rd_T86 l p).f1 * (l.length : Int) := Int.mul_nonneg (by omega) (by omega)
      simp only [s]
      rw [w64_in (n := (rd_T86 l p).f1 * (l.length : Int)) (by omega) (by omega), w64_in (by omega) (by omega)]
    refine ⟨_, ln (fun q => r q (rd_T86 l q)), agree 2 turn pick m l h0 h1 hl h8 (by decide) s (fun q => r q (rd_T86 l q)) (fun p a b => ?_) (fun p q a b c d => ?_) (fun p q a b c d e => ?_), ev_neg (by decide) (ev_pos (by decide) ?_)⟩
    · unfold spec_l6Rank.f; rw [if_neg (by decide), if_pos rfl, if_pos a, if_pos b]
    · rw [rws p a b, rws q c d, rw8 p a b, rw8 q c d]
      exact back_same _ _ _ _ _ (by omega) (by omega) a b c d
    · rw [rw8 p a b, rw8 q c d] at e; omega
    · have := ch_v114 2 turn pick m r h0 h1 l.length hl (fun p x => rfl) l [] [] 0 (by simp) h8 (by simp) ok
      rw [ch_el m r l [] [] 0] at this
      simpa only [List.nil_append, List.length_nil, nat0, impl_choose_v114.f] using this
  · have sp := spec_el m h0 h1 l [] [] (by simpa using h8) (by simp)
    simp only [List.nil_append, List.length_nil, nat0] at sp
    refine ⟨(el m 0 l, turn), by have := el_len m l 0; simp only []; omega, ?_, ev_neg (by decide) (ev_neg (by decide) (ev_pos (by decide) ?_))⟩
    · unfold spec_l6Pick.f
      refine ev_bind (by unfold spec_l6Eligible.f; exact sp) (ev_pos rfl (ev_succ ?_))
      simp only [spec_l6Pick.j0]; exact ev_pos (by trivial) (Ev.now _)
    · have := ch_v115 3 turn pick m (fun _ _ => 0) h0 h1 l.length hl (fun p x => rfl) l [] [] 0 (by simp) h8 (by simp) ok
      rw [ch_el m (fun _ _ => 0) l [] [] 0, chI_zero] at this
      have nt : ∀ c, nextTurn 3 turn (l.length : Int) c = turn := fun c => by unfold nextTurn; rw [if_neg (fun g => absurd g.1 (by decide))]
      rw [nt] at this
      simpa only [List.nil_append, List.length_nil, nat0, impl_choose_v115.f] using this
  · let r : Int → Int := fun p => if p = pick then -1 else p
    refine ⟨_, ln r, agree 4 turn pick m l h0 h1 hl h8 (by decide) r r (fun p _ _ => ?_) (fun _ _ _ _ _ _ => Iff.rfl) (fun p q a b c d e => ?_), ev_neg (by decide) (ev_neg (by decide) (ev_neg (by decide) (ev_pos (by decide) ?_)))⟩
    · unfold spec_l6Rank.f; rw [if_neg (by decide), if_neg (by decide)]; simp only [r]; split <;> rfl
    · simp only [r] at e; split at e <;> split at e <;> omega
    · have := ch_v116 4 turn pick m (fun p _ => r p) h0 h1 l.length hl (fun p x => by unfold impl_policyOf_4.f; simp only [r]; split <;> rfl) l [] [] 0 (by simp) h8 (by simp) ok
      rw [ch_el m (fun p _ => r p) l [] [] 0] at this
      simpa only [List.nil_append, List.length_nil, nat0, impl_choose_v116.f] using this

/-! ### the law's own helpers at mappings -/
def toI (x : LV)   : V := ⟨x.f0, x.f1, x.f2⟩
theorem toMapS_loop (xs : List LV) : ∀ (pre : List LV) (ys : List V), ys.length = xs.length → (pre ++ xs).length ≤ 1048576 →
    Ev (fun k => laws_toPathViewS.l0 k (pre ++ xs) (pre.map toI ++ ys) (pre.length : Int)) ((pre ++ xs).map toI) := by
  induction xs with
  | nil =>
    intro pre ys hy hl
    obtain rfl : ys = [] := List.eq_nil_of_length_eq_zero hy
    refine ev_succ ?_; simp only [laws_toPathViewS.l0]; exact ev_neg (by simp) (ev_eq (Ev.now _) (by simp))
  | cons s t ih =>
    intro pre ys hy hl
    obtain ⟨u, us, rfl⟩ : ∃ u us, ys = u :: us := by cases ys with | nil => simp at hy | cons u us => exact ⟨u, us, rfl⟩
    simp only [List.length_append, List.length_cons] at hl hy
    have hs : rd_T117 (pre ++ s :: t) (pre.length : Int) = s := by simp [rd_T117]
    refine ev_succ ?_
    simp only [laws_toPathViewS.l0, laws_toPathView.f]
    refine ev_pos (by simp; omega) (ev_pos (by omega) (ev_some (ev_pos (by simp; omega) ?_)))
    rw [hs, next_at pre s (by omega), snoc_cons pre t s]
    have e : (pre.map toI ++ u :: us).set (pre.length : Int).toNat (⟨s.f0, s.f1, s.f2⟩ : V) = (pre ++ [s]).map toI ++ us := by
      have := set_mid (pre.map toI) us u (toI s)
      rw [List.length_map] at this
      rw [show (⟨s.f0, s.f1, s.f2⟩ : V) = toI s from rfl, this]; simp
    rw [e]
    exact ih (pre ++ [s]) us (by omega) (by simp; omega)
theorem toMapS_is (l : List LV) (hl : l.length ≤ 1048576) : Ev (fun k => laws_toPathViewS.f k l) (l.map toI) := by
  unfold laws_toPathViewS.f
  refine ev_pos (by omega) (ev_pos (by omega) ?_)
  exact toMapS_loop l [] _ (by simp) (by simpa using hl)
theorem eqMapS_loop (xs : List V) : ∀ pre : List V, (pre ++ xs).length ≤ 4611686018427387904 → Ev (fun k => laws_eqPathViewS.l0 k (pre ++ xs) (pre ++ xs) (pre.length : Int)) true := by
  induction xs with
  | nil => intro pre hl; refine ev_succ ?_; simp only [laws_eqPathViewS.l0]; exact ev_neg (by simp) (Ev.now _)
  | cons s t ih =>
    intro pre hl
    simp only [List.length_append, List.length_cons] at hl
    refine ev_succ ?_
    simp only [laws_eqPathViewS.l0]
    refine ev_pos (by simp; omega) (ev_pos (by omega) (ev_pos (by simp; omega) ?_))
    refine ev_bind (a := true) (by simp only [laws_eqPathView.f]; exact Ev.now _) ?_
    refine ev_pos (by trivial) ?_
    rw [next_at pre s (by omega), snoc_cons pre t s]
    exact ih (pre ++ [s]) (by simp; omega)
theorem eqMapS_refl (l : List V) (hl : l.length ≤ 4611686018427387904) : Ev (fun k => laws_eqPathViewS.f k l l) true := by
  unfold laws_eqPathViewS.f
  refine ev_pos (by trivial) ?_
  exact eqMapS_loop l [] (by simpa using hl)
theorem szMapS_is (l : List LV) (h : l.length ≤ maxLen) : laws_szPathViewS.f l 1048576 = some (if l.length ≤ 1048576 then 1048576 - (l.length : Int) else -1) := by
  unfold maxLen at h
  unfold laws_szPathViewS.f
  rw [w64_in (n := 1048576 - (l.length : Int)) (by omega) (by omega)]
  by_cases c : l.length ≤ 1048576
  · rw [if_neg (by omega), if_pos c]
  · rw [if_pos (by omega), if_neg c]
theorem markMap (xs : List V) : ∀ (pre : List V) (m : Int), (pre ++ xs).length ≤ 1048576 → 1 ≤ m → m + 3 * xs.length ≤ 1000000000 →
    ∃ ys, Ev (fun k => laws_markPathViewS.l0 k (pre ++ xs) m (pre.length : Int)) (m + 3 * xs.length, ys) := by
  induction xs with
  | nil =>
    intro pre m hl hm hb
    refine ⟨pre, ?_⟩
    refine ev_succ ?_; simp only [laws_markPathViewS.l0]; exact ev_neg (by simp) (ev_eq (Ev.now _) (by simp))
  | cons s t ih =>
    intro pre m hl hm hb
    simp only [List.length_append, List.length_cons] at hl hb
    have e1 : wrap64 (m + 1) = m + 1 := w64_in (by omega) (by omega)
    have e2 : wrap64 (m + 1 + 1) = m + 2 := by rw [w64_in (n := m + 1 + 1) (by omega) (by omega)]; omega
    have e3 : wrap64 (m + 2 + 1) = m + 3 := by rw [w64_in (n := m + 2 + 1) (by omega) (by omega)]; omega
    obtain ⟨ys, h1⟩ := ih (pre ++ [(⟨m, m + 1, m + 2⟩ : V)]) (m + 3) (by simp; omega) (by omega) (by omega)
    refine ⟨ys, ?_⟩
    refine ev_succ ?_
    simp only [laws_markPathViewS.l0]
    refine ev_pos (by simp; omega) (ev_pos (by omega) (ev_some (ev_some ?_)))
    simp only [rd_T86, getD_mid, set_mid, e1, e2, e3]
    rw [next_at pre (⟨m, m + 1, m + 2⟩ : V) (by omega), snoc_cons pre t (⟨m, m + 1, m + 2⟩ : V)]
    refine ev_eq h1 ?_
    simp only [List.length_cons, Prod.mk.injEq, and_true]; omega
theorem markMapS_is (l : List V) (hl : l.length ≤ 1048576) : ∃ ys, Ev (fun k => laws_markPathViewS.f k l 1) (1 + 3 * l.length, ys) := by
  obtain ⟨ys, h1⟩ := markMap l [] 1 (by simpa using hl) (by omega) (by omega)
  exact ⟨ys, by simpa only [laws_markPathViewS.f, List.nil_append, List.length_nil, nat0] using h1⟩
theorem eqInt64S_loop (xs : List Int) : ∀ pre : List Int, (pre ++ xs).length ≤ 4611686018427387904 → Ev (fun k => laws_eqInt64S.l0 k (pre ++ xs) (pre ++ xs) (pre.length : Int)) true := by
  induction xs with
  | nil => intro pre hl; refine ev_succ ?_; simp only [laws_eqInt64S.l0]; exact ev_neg (by simp) (Ev.now _)
  | cons s t ih =>
    intro pre hl
    simp only [List.length_append, List.length_cons] at hl
    refine ev_succ ?_
    simp only [laws_eqInt64S.l0]
    refine ev_pos (by simp; omega) ?_
    refine ev_pos (by omega) ?_
    refine ev_pos (by simp; omega) ?_
    refine ev_pos (by trivial) ?_
    rw [next_at pre s (by omega), snoc_cons pre t s]
    exact ih (pre ++ [s]) (by simp; omega)
theorem eqInt64S_refl (l : List Int) (hl : l.length ≤ 4611686018427387904) : Ev (fun k => laws_eqInt64S.f k l l) true := by
  unfold laws_eqInt64S.f
  refine ev_pos (by trivial) ?_
  exact eqInt64S_loop l [] (by simpa using hl)
theorem markInt64S_loop (xs : List Int) : ∀ (pre : List Int) (m : Int), (pre ++ xs).length ≤ 1048576 → 1 ≤ m → m + xs.length ≤ 1000000000 →
    ∃ ys, ys.length = xs.length ∧ Ev (fun k => laws_markInt64S.l0 k (pre ++ xs) m (pre.length : Int)) (m + xs.length, pre ++ ys) ∧
      ∀ pre' : List Int, pre'.length = pre.length → Ev (fun k => laws_heldInt64S.l0 k (pre' ++ ys) m (pre'.length : Int)) (m + xs.length) := by
  induction xs with
  | nil =>
    intro pre m hl hm hb
    refine ⟨[], rfl, ?_, fun pre' hp => ?_⟩
    · refine ev_succ ?_; simp only [laws_markInt64S.l0]; exact ev_neg (by simp) (ev_eq (Ev.now _) (by simp))
    · refine ev_succ ?_; simp only [laws_heldInt64S.l0]; exact ev_neg (by simp) (ev_eq (Ev.now _) (by simp))
  | cons s t ih =>
    intro pre m hl hm hb
    simp only [List.length_append, List.length_cons] at hl hb
    obtain ⟨ys, hy, h, g⟩ := ih (pre ++ [m]) (m + 1) (by simp; omega) (by omega) (by omega)
    refine ⟨m :: ys, by simp [hy], ?_, fun pre' hp => ?_⟩
    · refine ev_succ ?_
      simp only [laws_markInt64S.l0]
      refine ev_pos (by simp; omega) ?_
      refine ev_pos (by omega) ?_
      rw [set_mid, next_at pre (m) (by omega), snoc_cons pre t, w64_in (n := m + 1) (by omega) (by omega), snoc_cons pre ys]
      refine ev_eq h ?_
      simp only [List.length_cons, Prod.mk.injEq, and_true]; omega
    · refine ev_succ ?_
      simp only [laws_heldInt64S.l0]
      refine ev_pos (by simp; omega) ?_
      refine ev_pos (by omega) ?_
      rw [rd_mid, next_at pre' (m) (by omega), w64_in (n := m + 1) (by omega) (by omega)]
      refine ev_pos rfl ?_
      rw [snoc_cons pre' ys]
      refine ev_eq (g (pre' ++ [m]) (by simp [hp])) ?_
      simp only [List.length_cons]; omega
theorem markInt64S_is (l : List Int) (hl : l.length ≤ 1048576) : ∃ ys, ys.length = l.length ∧ Ev (fun k => laws_markInt64S.f k l 1) (1 + l.length, ys) ∧ Ev (fun k => laws_heldInt64S.f k ys 1) (1 + l.length) := by
  obtain ⟨ys, hy, h, g⟩ := markInt64S_loop l [] 1 (by simpa using hl) (by omega) (by omega)
  refine ⟨ys, hy, by simpa only [laws_markInt64S.f, List.nil_append, List.length_nil, nat0] using h, ?_⟩
  have := g [] rfl
  simpa only [laws_heldInt64S.f, List.nil_append, List.length_nil, nat0] using this
/-- What both answer. -/
theorem pick_both (pol turn pick m : Int) (l : List V) : ∃ R : List Int × Int × Int, R.1.length ≤ 8 ∧ Ev (fun k => spec_Pick.f k pol turn pick l m) R ∧ Ev (fun k => impl_Pick.f k pol turn pick l m) R := by
  unfold spec_Pick.f impl_Pick.f
  by_cases bad : pol < 1 ∨ pol > 4
  · refine ⟨([], 0, 17), by simp, ?_, ?_⟩
    · by_cases c : pol < 1
      · refine ev_pos c (ev_succ ?_); simp only [spec_Pick.j0]; exact ev_pos (by trivial) (Ev.now _)
      · refine ev_neg c (ev_succ ?_); simp only [spec_Pick.j0]; exact ev_pos (by simp; omega) (Ev.now _)
    · have : impl_policyOf.f pol = some ((⟨#[]⟩ : ByteArray), (-1), false) := by
        unfold impl_policyOf.f; rw [if_neg (by omega), if_neg (by omega), if_neg (by omega), if_neg (by omega)]
      rw [this]; exact ev_some (ev_neg (by simp) (Ev.now _))
  have hp : 1 ≤ pol ∧ pol ≤ 4 := by omega
  obtain ⟨nm, hnm⟩ : ∃ nm, impl_policyOf.f pol = some (nm, 112 + pol, true) := by
    have : pol = 1 ∨ pol = 2 ∨ pol = 3 ∨ pol = 4 := by omega
    rcases this with rfl | rfl | rfl | rfl <;> exact ⟨_, rfl⟩
  rw [hnm]
  obtain ⟨v, hv, e1, e2⟩ := paths_valid l
  have front : ∀ R, Ev (fun k => spec_Pick.j0 k pol turn pick l m false) R → Ev (fun k => if pol < 1 then spec_Pick.j0 k pol turn pick l m true else spec_Pick.j0 k pol turn pick l m (decide (pol > 4))) R := by
    intro R h
    rw [decide_eq_false (show ¬ pol > 4 by omega)]
    exact ev_neg (by omega) h
  cases v with
  | false =>
    refine ⟨([], 0, 6), by simp, front _ (ev_succ ?_), ev_some (ev_pos (by trivial) (ev_bind e2 (ev_neg (by simp) (Ev.now _))))⟩
    simp only [spec_Pick.j0]; exact ev_neg (by simp) (ev_bind e1 (ev_neg (by simp) (Ev.now _)))
  | true =>
    obtain ⟨_, h8, ok⟩ := hv rfl
    by_cases c1 : turn < 0
    · refine ⟨([], 0, 4), by simp, front _ (ev_succ ?_), ev_some (ev_pos (by trivial) (ev_bind e2 (ev_pos (by trivial) (ev_pos c1 (Ev.now _)))))⟩
      simp only [spec_Pick.j0]; exact ev_neg (by simp) (ev_bind e1 (ev_pos (by trivial) (ev_pos c1 (Ev.now _))))
    by_cases c2 : turn ≥ (l.length : Int)
    · refine ⟨([], 0, 4), by simp, front _ (ev_succ ?_), ev_some (ev_pos (by trivial) (ev_bind e2 (ev_pos (by trivial) (ev_neg c1 (ev_pos c2 (Ev.now _))))))⟩
      simp only [spec_Pick.j0]; exact ev_neg (by simp) (ev_bind e1 (ev_pos (by trivial) (ev_neg c1 (ev_pos c2 (Ev.now _)))))
    by_cases c3 : m < 0
    · refine ⟨([], 0, 4), by simp, front _ (ev_succ ?_), ev_some (ev_pos (by trivial) (ev_bind e2 (ev_pos (by trivial) (ev_neg c1 (ev_neg c2 (ev_pos c3 (Ev.now _)))))))⟩
      simp only [spec_Pick.j0]; exact ev_neg (by simp) (ev_bind e1 (ev_pos (by trivial) (ev_neg c1 (ev_neg c2 (ev_pos c3 (Ev.now _))))))
    by_cases c4 : m > 255
    · refine ⟨([], 0, 4), by simp, front _ (ev_succ ?_), ev_some (ev_pos (by trivial) (ev_bind e2 (ev_pos (by trivial) (ev_neg c1 (ev_neg c2 (ev_neg c3 (ev_pos c4 (Ev.now _))))))))⟩
      simp only [spec_Pick.j0]; exact ev_neg (by simp) (ev_bind e1 (ev_pos (by trivial) (ev_neg c1 (ev_neg c2 (ev_neg c3 (ev_pos c4 (Ev.now _)))))))
    obtain ⟨R, hR, s1, s2⟩ := choose_both pol turn pick m l nm hp ⟨by omega, by omega⟩ (by omega) (by omega) h8 ok
    refine ⟨(R.1, R.2, 0), hR, front _ (ev_succ ?_), ev_some (ev_pos (by trivial) (ev_bind e2 (ev_pos (by trivial) (ev_neg c1 (ev_neg c2 (ev_neg c3 (ev_neg c4 (ev_bind s2 (Ev.now _)))))))))⟩
    simp only [spec_Pick.j0]; exact ev_neg (by simp) (ev_bind e1 (ev_pos (by trivial) (ev_neg c1 (ev_neg c2 (ev_neg c3 (ev_neg c4 (ev_bind s1 (Ev.now _))))))))

theorem FnExactPick : laws_FnExactPick.Pure := by
  intro pol turn pick l0 m _ _ _ hlen _ _
  refine Ev.rounds ?_
  unfold laws_FnExactPick.f
  rw [szMapS_is l0 hlen]
  refine ev_some ?_
  by_cases big : l0.length ≤ 1048576
  · rw [if_pos big]
    refine ev_neg (by omega) ?_
    obtain ⟨R, hR, e1, e2⟩ := pick_both pol turn pick m (l0.map toI)
    have hml : (l0.map toI).length ≤ 1048576 := by simpa using big
    refine ev_bind (toMapS_is l0 big) (ev_bind e1 (ev_bind (toMapS_is l0 big) (ev_bind e2 (ev_bind (eqInt64S_refl R.1 (by omega)) ?_))))
    refine ev_pos (by trivial) (ev_pos rfl ?_)
    rw [bne_self_eq_false]
    refine ev_succ ?_; simp only [laws_FnExactPick.j0]
    refine ev_neg (by decide) (ev_bind (toMapS_is l0 big) (ev_bind (eqMapS_refl _ (by omega)) (ev_pos (by trivial) ?_)))
    obtain ⟨ys, m1⟩ := markMapS_is (l0.map toI) hml
    refine ev_bind m1 (ev_neg (by simp only []; omega) (ev_bind (eqInt64S_refl R.1 (by omega)) (ev_pos (by trivial) (ev_pos (by trivial) ?_))))
    rw [bne_self_eq_false]
    refine ev_succ ?_; simp only [laws_FnExactPick.j1]
    obtain ⟨zs, _, m2, m3⟩ := markInt64S_is R.1 (by omega)
    refine ev_neg (by decide) (ev_bind m2 (ev_bind m3 (ev_neg (by omega) (ev_pos rfl ?_))))
    exact ev_bind (toMapS_is l0 big) (ev_bind e2 (ev_bind (eqInt64S_refl R.1 (by omega)) (ev_pos (by trivial) (ev_pos rfl (ev_pos rfl (Ev.now _))))))
  · rw [if_neg big]
    exact ev_pos (by omega) (Ev.now _)

end Go.Proofs.Ytakeenidhkhmiaa.Pure
