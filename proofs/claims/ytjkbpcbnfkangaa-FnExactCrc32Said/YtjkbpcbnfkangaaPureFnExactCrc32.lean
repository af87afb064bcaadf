/- For every list of bytes, the program's Crc32 is the reference's, and it writes into no argument. No condition. -/
import Derived.Test.YtjkbpcbnfkangaaPFnExactCrc32x1
import Derived.Test.YtjkbpcbnfkangaaEvB
namespace Go.Proofs.Ytjkbpcbnfkangaa.Pure
open Go.RowKit Go.Proofs.Ytjkbpcbnfkangaa.PFnExactCrc32 Go.Proofs.YtjkbpcbnfkangaaW.PrintWords Go.Proofs.YtjkbpcbnfkangaaW.PrintLast Go.Proofs.Ytjkbpcbnfkangaa.Base

/-- One bit of the sum. -/
def bit1 (r : Int) : Int := if Go.bits .and .u32 r 1 = 1 then Go.bits .xor .u32 (r / 2) 3988292384 else r / 2
def bitsN : Nat → Int → Int
  | 0, r => r
  | n + 1, r => bitsN n (bit1 r)
/-- The register behind so many bytes. -/
def regOf (r : Int) : List Int → Int
  | [] => r
  | c :: t => regOf (bitsN 8 (Go.bits .xor .u32 r (c % 4294967296))) t
def crcOf (l : List Int) : Int := Go.bits .xor .u32 (regOf 4294967295 l) 4294967295

theorem xor_comm32 (a b : Int) : Go.bits .xor .u32 a b = Go.bits .xor .u32 b a := by
  simp only [Go.bits, BitVec.xor_comm]

theorem crc_spec_bits (xs : List Int) (i : Int) (res : Int) (n : Nat) : ∀ (r : Int) (j : Int), 0 ≤ j → j + n = 8 →
    Ev (fun k => spec_Crc32.l0 k xs (bitsN n r) (wrap64 (i + 1))) res → Ev (fun k => spec_Crc32.l1 k xs r i j) res := by
  induction n with
  | zero =>
    intro r j h0 h1 h
    refine ev_succ ?_; simp only [spec_Crc32.l1]
    exact ev_neg (by omega) h
  | succ n ih =>
    intro r j h0 h1 h
    refine ev_succ ?_; simp only [spec_Crc32.l1]
    refine ev_pos (by omega) ?_
    rw [w64_in (n := j + 1) (by omega) (by omega)]
    by_cases c : Go.bits .and .u32 r 1 = 1
    · refine ev_pos c (ih _ _ (by omega) (by omega) ?_)
      simpa only [bitsN, bit1, if_pos c] using h
    · refine ev_neg c (ih _ _ (by omega) (by omega) ?_)
      simpa only [bitsN, bit1, if_neg c] using h

theorem crc_spec_loop (ys : List Int) : ∀ (pre : List Int) (r : Int), (pre ++ ys).length ≤ 4611686018427387904 →
    Ev (fun k => spec_Crc32.l0 k (pre ++ ys) r (pre.length : Int)) (Go.bits .xor .u32 (regOf r ys) 4294967295) := by
  induction ys with
  | nil => intro pre r hl; refine ev_succ ?_; simp only [spec_Crc32.l0]; exact ev_neg (by simp) (Ev.now _)
  | cons c t ih =>
    intro pre r hl
    simp only [List.length_append, List.length_cons] at hl
    refine ev_succ ?_; simp only [spec_Crc32.l0]
    refine ev_pos (by simp; omega) (ev_pos (by omega) ?_)
    refine crc_spec_bits _ _ _ 8 _ _ (by omega) (by omega) ?_
    rw [rd_mid, next_at pre c (by omega), snoc_cons pre t c]
    exact ih (pre ++ [c]) _ (by simp; omega)

theorem crc_spec_is (l : List Int) (hl : l.length ≤ 4611686018427387904) : Ev (fun k => spec_Crc32.f k l) (crcOf l) := by
  unfold spec_Crc32.f crcOf
  exact crc_spec_loop l [] _ (by simpa using hl)

theorem crc_impl_bits (xs : List Int) (m : Int) (i : Int) (res : Int) (n : Nat) : ∀ (r : Int) (j : Int), 0 ≤ j → j + n = 8 →
    Ev (fun k => impl_Crc32.l0 k (bitsN n r) xs m (wrap64 (i + 1))) res → Ev (fun k => impl_Crc32.l1 k r xs m i j) res := by
  induction n with
  | zero =>
    intro r j h0 h1 h
    refine ev_succ ?_; simp only [impl_Crc32.l1]
    exact ev_neg (by omega) h
  | succ n ih =>
    intro r j h0 h1 h
    refine ev_succ ?_; simp only [impl_Crc32.l1]
    refine ev_pos (by omega) ?_
    rw [w64_in (n := j + 1) (by omega) (by omega)]
    by_cases c : Go.bits .and .u32 r 1 = 1
    · refine ev_pos c (ih _ _ (by omega) (by omega) ?_)
      simpa only [bitsN, bit1, if_pos c] using h
    · refine ev_neg c (ih _ _ (by omega) (by omega) ?_)
      simpa only [bitsN, bit1, if_neg c] using h

theorem crc_impl_loop (ys : List Int) : ∀ (pre : List Int) (r : Int), (pre ++ ys).length ≤ 4611686018427387904 →
    Ev (fun k => impl_Crc32.l0 k r (pre ++ ys) ((pre ++ ys).length : Int) (pre.length : Int)) (Go.bits .xor .u32 4294967295 (regOf r ys)) := by
  induction ys with
  | nil => intro pre r hl; refine ev_succ ?_; simp only [impl_Crc32.l0]; exact ev_neg (by simp) (Ev.now _)
  | cons c t ih =>
    intro pre r hl
    simp only [List.length_append, List.length_cons] at hl
    refine ev_succ ?_; simp only [impl_Crc32.l0]
    refine ev_pos (by simp; omega) (ev_pos (by omega) (ev_pos (by simp; omega) ?_))
    refine crc_impl_bits _ _ _ _ 8 _ _ (by omega) (by omega) ?_
    rw [rd_mid, next_at pre c (by omega), snoc_cons pre t c]
    exact ih (pre ++ [c]) _ (by simp; omega)

theorem crc_impl_is (l : List Int) (hl : l.length ≤ 4611686018427387904) : Ev (fun k => impl_Crc32.f k l) (crcOf l) := by
  unfold impl_Crc32.f crcOf
  rw [xor_comm32]
  exact crc_impl_loop l [] _ (by simpa using hl)
theorem toByteS_loop (xs : List Int) : ∀ (pre ys : List Int), ys.length = xs.length → (pre ++ xs).length ≤ 1048576 →
    Ev (fun k => laws_toByteS.l0 k (pre ++ xs) (pre ++ ys) (pre.length : Int)) (pre ++ xs) := by
  induction xs with
  | nil =>
    intro pre ys hy hl
    obtain rfl : ys = [] := List.eq_nil_of_length_eq_zero hy
    refine ev_succ ?_; simp only [laws_toByteS.l0]; exact ev_neg (by simp) (Ev.now _)
  | cons s t ih =>
    intro pre ys hy hl
    obtain ⟨u, us, rfl⟩ : ∃ u us, ys = u :: us := by cases ys with | nil => simp at hy | cons u us => exact ⟨u, us, rfl⟩
    simp only [List.length_append, List.length_cons] at hl hy
    refine ev_succ ?_
    simp only [laws_toByteS.l0]
    refine ev_pos (by simp; omega) ?_
    refine ev_pos (by omega) ?_
    refine ev_pos (by simp; omega) ?_
    rw [rd_mid, set_mid, next_at pre s (by omega), snoc_cons pre us s, snoc_cons pre t s]
    exact ih (pre ++ [s]) us (by omega) (by simp; omega)
theorem toByteS_is (l : List Int) (hl : l.length ≤ 1048576) : Ev (fun k => laws_toByteS.f k l) l := by
  unfold laws_toByteS.f
  refine ev_pos (by omega) (ev_pos (by omega) ?_)
  exact toByteS_loop l [] _ (by simp) (by simpa using hl)
theorem eqByteS_loop (xs : List Int) : ∀ pre : List Int, (pre ++ xs).length ≤ 4611686018427387904 → Ev (fun k => laws_eqByteS.l0 k (pre ++ xs) (pre ++ xs) (pre.length : Int)) true := by
  induction xs with
  | nil => intro pre hl; refine ev_succ ?_; simp only [laws_eqByteS.l0]; exact ev_neg (by simp) (Ev.now _)
  | cons s t ih =>
    intro pre hl
    simp only [List.length_append, List.length_cons] at hl
    refine ev_succ ?_
    simp only [laws_eqByteS.l0]
    refine ev_pos (by simp; omega) ?_
    refine ev_pos (by omega) ?_
    refine ev_pos (by simp; omega) ?_
    refine ev_pos trivial ?_
    rw [next_at pre s (by omega), snoc_cons pre t s]
    exact ih (pre ++ [s]) (by simp; omega)
theorem eqByteS_refl (l : List Int) (hl : l.length ≤ 4611686018427387904) : Ev (fun k => laws_eqByteS.f k l l) true := by
  unfold laws_eqByteS.f
  refine ev_pos rfl ?_
  exact eqByteS_loop l [] (by simpa using hl)

theorem FnExactCrc32 : laws_FnExactCrc32.Pure := by
  intro l0 _ _ _
  refine Ev.rounds ?_
  unfold laws_FnExactCrc32.f
  by_cases big : (l0.length : Int) > 1048576
  · exact ev_pos big (Ev.now _)
  refine ev_neg big ?_
  refine ev_bind (toByteS_is l0 (by omega)) ?_
  refine ev_bind (crc_spec_is l0 (by omega)) ?_
  refine ev_bind (toByteS_is l0 (by omega)) ?_
  refine ev_bind (crc_impl_is l0 (by omega)) ?_
  refine ev_pos rfl ?_
  refine ev_bind (toByteS_is l0 (by omega)) ?_
  refine ev_bind (eqByteS_refl l0 (by omega)) ?_
  exact ev_pos rfl (Ev.now _)

end Go.Proofs.Ytjkbpcbnfkangaa.Pure
