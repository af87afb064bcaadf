/- For every frame, the program's EncodeFrame is the reference's, bytes and code; it writes into no argument and its answer is its own memory. No condition. -/
import Derived.Test.YtakeenidhkhmiaaPFnExactEncodeFramex8
import Derived.Test.YtakeenidhkhmiaaEvB
namespace Go.Proofs.Ytakeenidhkhmiaa.Pure
open Go.RowKit Go.Proofs.Ytakeenidhkhmiaa.PFnExactEncodeFrame Go.Proofs.YtakeenidhkhmiaaW.PrintWords Go.Proofs.YtakeenidhkhmiaaW.PrintLast Go.Proofs.Ytakeenidhkhmiaa.Base

/-- One bit of the sum. -/
def bit1 (r : Int) : Int := if Go.bits .and .u32 r 1 = 1 then Go.bits .xor .u32 (r / 2) 3988292384 else r / 2
def bitsN : Nat → Int → Int
  | 0, r => r
  | n + 1, r => bitsN n (bit1 r)
/-- The register behind so many bytes. -/
def regOf (r : Int) : List Int → Int
  | [] => r
  | c :: t => regOf (bitsN 8 (Go.bits .xor .u32 r (c % 4294967296))) t
def crcOf (l : List Int) : Int := Go.bits .xor .u32 (regOf 4294967295 l) 4294967295

theorem xor_comm32 (a b : Int) : Go.bits .xor .u32 a b = Go.bits .xor .u32 b a := by
  simp only [Go.bits, BitVec.xor_comm]

theorem crc_spec_bits (xs : List Int) (i : Int) (res : Int) (n : Nat) : ∀ (r : Int) (j : Int), 0 ≤ j → j + n = 8 →
    Ev (fun k => spec_Crc32.l0 k xs (bitsN n r) (wrap64 (i + 1))) res → Ev (fun k => spec_Crc32.l1 k xs r i j) res := by
  induction n with
  | zero =>
    intro r j h0 h1 h
    refine ev_succ ?_; simp only [spec_Crc32.l1]
    exact ev_neg (by omega) h
  | succ n ih =>
    intro r j h0 h1 h
    refine ev_succ ?_; simp only [spec_Crc32.l1]
    refine ev_pos (by omega) ?_
    rw [w64_in (n := j + 1) (by omega) (by omega)]
    by_cases c : Go.bits .and .u32 r 1 = 1
    · refine ev_pos c (ih _ _ (by omega) (by omega) ?_)
      simpa only [bitsN, bit1, if_pos c] using h
    · refine ev_neg c (ih _ _ (by omega) (by omega) ?_)
      simpa only [bitsN, bit1, if_neg c] using h

theorem crc_spec_loop (ys : List Int) : ∀ (pre : List Int) (r : Int), (pre ++ ys).length ≤ 4611686018427387904 →
    Ev (fun k => spec_Crc32.l0 k (pre ++ ys) r (pre.length : Int)) (Go.bits .xor .u32 (regOf r ys) 4294967295) := by
  induction ys with
  | nil => intro pre r hl; refine ev_succ ?_; simp only [spec_Crc32.l0]; exact ev_neg (by simp) (Ev.now _)
  | cons c t ih =>
    intro pre r hl
    simp only [List.length_append, List.length_cons] at hl
    refine ev_succ ?_; simp only [spec_Crc32.l0]
    refine ev_pos (by simp; omega) (ev_pos (by omega) ?_)
    refine crc_spec_bits _ _ _ 8 _ _ (by omega) (by omega) ?_
    rw [rd_mid, next_at pre c (by omega), snoc_cons pre t c]
    exact ih (pre ++ [c]) _ (by simp; omega)

theorem crc_spec_is (l : List Int) (hl : l.length ≤ 4611686018427387904) : Ev (fun k => spec_Crc32.f k l) (crcOf l) := by
  unfold spec_Crc32.f crcOf
  exact crc_spec_loop l [] _ (by simpa using hl)

theorem crc_impl_bits (xs : List Int) (m : Int) (i : Int) (res : Int) (n : Nat) : ∀ (r : Int) (j : Int), 0 ≤ j → j + n = 8 →
    Ev (fun k => impl_Crc32.l0 k (bitsN n r) xs m (wrap64 (i + 1))) res → Ev (fun k => impl_Crc32.l1 k r xs m i j) res := by
  induction n with
  | zero =>
    intro r j h0 h1 h
    refine ev_succ ?_; simp only [impl_Crc32.l1]
    exact ev_neg (by omega) h
  | succ n ih =>
    intro r j h0 h1 h
    refine ev_succ ?_; simp only [impl_Crc32.l1]
    refine ev_pos (by omega) ?_
    rw [w64_in (n := j + 1) (by omega) (by omega)]
    by_cases c : Go.bits .and .u32 r 1 = 1
    · refine ev_pos c (ih _ _ (by omega) (by omega) ?_)
      simpa only [bitsN, bit1, if_pos c] using h
    · refine ev_neg c (ih _ _ (by omega) (by omega) ?_)
      simpa only [bitsN, bit1, if_neg c] using h

theorem crc_impl_loop (ys : List Int) : ∀ (pre : List Int) (r : Int), (pre ++ ys).length ≤ 4611686018427387904 →
    Ev (fun k => impl_Crc32.l0 k r (pre ++ ys) ((pre ++ ys).length : Int) (pre.length : Int)) (Go.bits .xor .u32 4294967295 (regOf r ys)) := by
  induction ys with
  | nil => intro pre r hl; refine ev_succ ?_; simp only [impl_Crc32.l0]; exact ev_neg (by simp) (Ev.now _)
  | cons c t ih =>
    intro pre r hl
    simp only [List.length_append, List.length_cons] at hl
    refine ev_succ ?_; simp only [impl_Crc32.l0]
    refine ev_pos (by simp; omega) (ev_pos (by omega) (ev_pos (by simp; omega) ?_))
    refine crc_impl_bits _ _ _ _ 8 _ _ (by omega) (by omega) ?_
    rw [rd_mid, next_at pre c (by omega), snoc_cons pre t c]
    exact ih (pre ++ [c]) _ (by simp; omega)

theorem crc_impl_is (l : List Int) (hl : l.length ≤ 4611686018427387904) : Ev (fun k => impl_Crc32.f k l) (crcOf l) := by
  unfold impl_Crc32.f crcOf
  rw [xor_comm32]
  exact crc_impl_loop l [] _ (by simpa using hl)
theorem toByteS_loop (xs : List Int) : ∀ (pre ys : List Int), ys.length = xs.length → (pre ++ xs).length ≤ 1048576 →
    Ev (fun k => laws_toByteS.l0 k (pre ++ xs) (pre ++ ys) (pre.length : Int)) (pre ++ xs) := by
  induction xs with
  | nil =>
    intro pre ys hy hl
    obtain rfl : ys = [] := List.eq_nil_of_length_eq_zero hy
    refine ev_succ ?_; simp only [laws_toByteS.l0]; exact ev_neg (by simp) (Ev.now _)
  | cons s t ih =>
    intro pre ys hy hl
    obtain ⟨u, us, rfl⟩ : ∃ u us, ys = u :: us := by cases ys with | nil => simp at hy | cons u us => exact ⟨u, us, rfl⟩
    simp only [List.length_append, List.length_cons] at hl hy
    refine ev_succ ?_
    simp only [laws_toByteS.l0]
    refine ev_pos (by simp; omega) ?_
    refine ev_pos (by omega) ?_
    refine ev_pos (by simp; omega) ?_
    rw [rd_mid, set_mid, next_at pre s (by omega), snoc_cons pre us s, snoc_cons pre t s]
    exact ih (pre ++ [s]) us (by omega) (by simp; omega)
theorem toByteS_is (l : List Int) (hl : l.length ≤ 1048576) : Ev (fun k => laws_toByteS.f k l) l := by
  unfold laws_toByteS.f
  refine ev_pos (by omega) (ev_pos (by omega) ?_)
  exact toByteS_loop l [] _ (by simp) (by simpa using hl)
theorem eqByteS_loop (xs : List Int) : ∀ pre : List Int, (pre ++ xs).length ≤ 4611686018427387904 → Ev (fun k => laws_eqByteS.l0 k (pre ++ xs) (pre ++ xs) (pre.length : Int)) true := by
  induction xs with
  | nil => intro pre hl; refine ev_succ ?_; simp only [laws_eqByteS.l0]; exact ev_neg (by simp) (Ev.now _)
  | cons s t ih =>
    intro pre hl
    simp only [List.length_append, List.length_cons] at hl
    refine ev_succ ?_
    simp only [laws_eqByteS.l0]
    refine ev_pos (by simp; omega) ?_
    refine ev_pos (by omega) ?_
    refine ev_pos (by simp; omega) ?_
    refine ev_pos (by trivial) ?_
    rw [next_at pre s (by omega), snoc_cons pre t s]
    exact ih (pre ++ [s]) (by simp; omega)
theorem eqByteS_refl (l : List Int) (hl : l.length ≤ 4611686018427387904) : Ev (fun k => laws_eqByteS.f k l l) true := by
  unfold laws_eqByteS.f
  refine ev_pos (by trivial) ?_
  exact eqByteS_loop l [] (by simpa using hl)
theorem markByteS_loop (xs : List Int) : ∀ (pre : List Int) (m : Int), (pre ++ xs).length ≤ 1048576 → 1 ≤ m → m + xs.length ≤ 1000000000 →
    ∃ ys, ys.length = xs.length ∧ Ev (fun k => laws_markByteS.l0 k (pre ++ xs) m (pre.length : Int)) (m + xs.length, pre ++ ys) ∧
      ∀ pre' : List Int, pre'.length = pre.length → Ev (fun k => laws_heldByteS.l0 k (pre' ++ ys) m (pre'.length : Int)) (m + xs.length) := by
  induction xs with
  | nil =>
    intro pre m hl hm hb
    refine ⟨[], rfl, ?_, fun pre' hp => ?_⟩
    · refine ev_succ ?_; simp only [laws_markByteS.l0]; exact ev_neg (by simp) (ev_eq (Ev.now _) (by simp))
    · refine ev_succ ?_; simp only [laws_heldByteS.l0]; exact ev_neg (by simp) (ev_eq (Ev.now _) (by simp))
  | cons s t ih =>
    intro pre m hl hm hb
    simp only [List.length_append, List.length_cons] at hl hb
    obtain ⟨ys, hy, h, g⟩ := ih (pre ++ [m % 256]) (m + 1) (by simp; omega) (by omega) (by omega)
    refine ⟨m % 256 :: ys, by simp [hy], ?_, fun pre' hp => ?_⟩
    · refine ev_succ ?_
      simp only [laws_markByteS.l0]
      refine ev_pos (by simp; omega) ?_
      refine ev_pos (by omega) ?_
      rw [set_mid, next_at pre (m % 256) (by omega), snoc_cons pre t, w64_in (n := m + 1) (by omega) (by omega), snoc_cons pre ys]
      refine ev_eq h ?_
      simp only [List.length_cons, Prod.mk.injEq, and_true]; omega
    · refine ev_succ ?_
      simp only [laws_heldByteS.l0]
      refine ev_pos (by simp; omega) ?_
      refine ev_pos (by omega) ?_
      rw [rd_mid, next_at pre' (m % 256) (by omega), w64_in (n := m + 1) (by omega) (by omega)]
      refine ev_pos rfl ?_
      rw [snoc_cons pre' ys]
      refine ev_eq (g (pre' ++ [m % 256]) (by simp [hp])) ?_
      simp only [List.length_cons]; omega
theorem markByteS_is (l : List Int) (hl : l.length ≤ 1048576) : ∃ ys, ys.length = l.length ∧ Ev (fun k => laws_markByteS.f k l 1) (1 + l.length, ys) ∧ Ev (fun k => laws_heldByteS.f k ys 1) (1 + l.length) := by
  obtain ⟨ys, hy, h, g⟩ := markByteS_loop l [] 1 (by simpa using hl) (by omega) (by omega)
  refine ⟨ys, hy, by simpa only [laws_markByteS.f, List.nil_append, List.length_nil, nat0] using h, ?_⟩
  have := g [] rfl
  simpa only [laws_heldByteS.f, List.nil_append, List.length_nil, nat0] using this
set_option linter.unusedSimpArgs false in
theorem valid_same (kd pa sq off wi : Int) (l : List Int) : ∃ r : Bool, (r = true → l.length ≤ 32) ∧
    (∀ k, spec_l1Valid.f (k+1+1+1+1) kd pa sq off wi l = some r) ∧ (∀ k, impl_validFrame.f (k+1+1+1+1) kd pa sq off wi l = some r) := by
  by_cases h1 : kd < 1
  · exact ⟨false, by simp, fun k => by simp [spec_l1Valid.f, spec_l1Valid.j0, h1], fun k => by simp [impl_validFrame.f, impl_validFrame.j0, h1]⟩
  by_cases h2 : kd > 5
  · exact ⟨false, by simp, fun k => by simp [spec_l1Valid.f, spec_l1Valid.j0, h1, h2], fun k => by simp [impl_validFrame.f, impl_validFrame.j0, h1, h2]⟩
  by_cases h3 : pa < 0
  · exact ⟨false, by simp, fun k => by simp [spec_l1Valid.f, spec_l1Valid.j0, h1, h2, h3], fun k => by simp [impl_validFrame.f, impl_validFrame.j0, h1, h2, h3]⟩
  by_cases h4 : pa ≥ 8
  · exact ⟨false, by simp, fun k => by simp [spec_l1Valid.f, spec_l1Valid.j0, h1, h2, h3, h4], fun k => by simp [impl_validFrame.f, impl_validFrame.j0, h1, h2, h3, h4]⟩
  by_cases h5 : wi < 0
  · exact ⟨false, by simp, fun k => by simp [spec_l1Valid.f, spec_l1Valid.j0, spec_l1Valid.j1, h1, h2, h3, h4, h5], fun k => by simp [impl_validFrame.f, impl_validFrame.j0, impl_validFrame.j1, h1, h2, h3, h4, h5]⟩
  by_cases h6 : wi > 65535
  · exact ⟨false, by simp, fun k => by simp [spec_l1Valid.f, spec_l1Valid.j0, spec_l1Valid.j1, h1, h2, h3, h4, h5, h6], fun k => by simp [impl_validFrame.f, impl_validFrame.j0, impl_validFrame.j1, h1, h2, h3, h4, h5, h6]⟩
  by_cases h7 : kd ≠ 2 ∧ wi ≠ 0
  · exact ⟨false, by simp, fun k => by simp [spec_l1Valid.f, spec_l1Valid.j0, spec_l1Valid.j1, h1, h2, h3, h4, h5, h6, h7.1, h7.2], fun k => by simp [impl_validFrame.f, impl_validFrame.j0, impl_validFrame.j1, h1, h2, h3, h4, h5, h6, h7.1, h7.2]⟩
  generalize hn : (l.length : Int) = n
  have hk : kd = 1 ∨ kd = 2 ∨ kd = 3 ∨ kd = 4 ∨ kd = 5 := by omega
  rcases hk with rfl | rfl | rfl | rfl | rfl
  · have hw : wi = 0 := by omega
    by_cases n1 : n < 1
    · exact ⟨false, by simp, fun k => by simp [spec_l1Valid.f, spec_l1Valid.j0, spec_l1Valid.j1, spec_l1Valid.j2, hn, h3, h4, hw, n1], fun k => by simp [impl_validFrame.f, impl_validFrame.j0, impl_validFrame.j1, impl_validFrame.j2, impl_validFrame.j3, hn, h3, h4, hw, show ¬ 1 ≤ n by omega]⟩
    by_cases n2 : n > 32
    · exact ⟨false, by simp, fun k => by simp [spec_l1Valid.f, spec_l1Valid.j0, spec_l1Valid.j1, spec_l1Valid.j2, hn, h3, h4, hw, n1, n2], fun k => by simp [impl_validFrame.f, impl_validFrame.j0, impl_validFrame.j1, impl_validFrame.j2, impl_validFrame.j3, hn, h3, h4, hw, show ¬ n ≤ 32 by omega]⟩
    by_cases n3 : off > (IntKind.u64.wrap (18446744073709551615 - (IntKind.u64.wrap n)))
    · exact ⟨false, by simp, fun k => by simp [spec_l1Valid.f, spec_l1Valid.j0, spec_l1Valid.j1, spec_l1Valid.j2, hn, h3, h4, hw, n1, n2, n3], fun k => by simp [impl_validFrame.f, impl_validFrame.j0, impl_validFrame.j1, impl_validFrame.j2, impl_validFrame.j3, hn, h3, h4, hw, show 1 ≤ n by omega, show n ≤ 32 by omega, show ¬ off ≤ (IntKind.u64.wrap (18446744073709551615 - (IntKind.u64.wrap n))) by omega, n3]⟩
    · exact ⟨true, fun _ => by omega, fun k => by simp [spec_l1Valid.f, spec_l1Valid.j0, spec_l1Valid.j1, spec_l1Valid.j2, spec_l1Valid.j3, hn, h3, h4, hw, n1, n2, n3], fun k => by simp [impl_validFrame.f, impl_validFrame.j0, impl_validFrame.j1, impl_validFrame.j2, impl_validFrame.j3, hn, h3, h4, hw, show 1 ≤ n by omega, show n ≤ 32 by omega, show off ≤ (IntKind.u64.wrap (18446744073709551615 - (IntKind.u64.wrap n))) by omega]⟩
  · by_cases n1 : n = 0
    · exact ⟨true, fun _ => by omega, fun k => by simp [spec_l1Valid.f, spec_l1Valid.j0, spec_l1Valid.j1, spec_l1Valid.j2, spec_l1Valid.j3, hn, h3, h4, h5, h6, n1], fun k => by simp [impl_validFrame.f, impl_validFrame.j0, impl_validFrame.j1, impl_validFrame.j2, impl_validFrame.j3, hn, h3, h4, h5, h6, n1]⟩
    · exact ⟨false, by simp, fun k => by simp [spec_l1Valid.f, spec_l1Valid.j0, spec_l1Valid.j1, spec_l1Valid.j2, spec_l1Valid.j3, hn, h3, h4, h5, h6, n1], fun k => by simp [impl_validFrame.f, impl_validFrame.j0, impl_validFrame.j1, impl_validFrame.j2, impl_validFrame.j3, hn, h3, h4, h5, h6, n1]⟩
  · have hw : wi = 0 := by omega
    by_cases n1 : n = 0
    · exact ⟨true, fun _ => by omega, fun k => by simp [spec_l1Valid.f, spec_l1Valid.j0, spec_l1Valid.j1, spec_l1Valid.j2, spec_l1Valid.j3, hn, h3, h4, hw, n1], fun k => by simp [impl_validFrame.f, impl_validFrame.j0, impl_validFrame.j1, impl_validFrame.j2, impl_validFrame.j3, hn, h3, h4, hw, n1]⟩
    · exact ⟨false, by simp, fun k => by simp [spec_l1Valid.f, spec_l1Valid.j0, spec_l1Valid.j1, spec_l1Valid.j2, spec_l1Valid.j3, hn, h3, h4, hw, n1], fun k => by simp [impl_validFrame.f, impl_validFrame.j0, impl_validFrame.j1, impl_validFrame.j2, impl_validFrame.j3, hn, h3, h4, hw, n1]⟩
  · have hw : wi = 0 := by omega
    by_cases n1 : n = 0 <;> by_cases o0 : off = 0 <;> by_cases s0 : sq = 0
    · exact ⟨true, fun _ => by omega, fun k => by simp [spec_l1Valid.f, spec_l1Valid.j0, spec_l1Valid.j1, spec_l1Valid.j2, spec_l1Valid.j3, hn, h3, h4, hw, n1, o0, s0], fun k => by simp [impl_validFrame.f, impl_validFrame.j0, impl_validFrame.j1, impl_validFrame.j2, impl_validFrame.j3, impl_headOf.f, hn, h3, h4, hw, n1, o0, s0]⟩
    all_goals exact ⟨false, by simp, fun k => by simp [spec_l1Valid.f, spec_l1Valid.j0, spec_l1Valid.j1, spec_l1Valid.j2, spec_l1Valid.j3, hn, h3, h4, hw, n1, o0, s0], fun k => by simp [impl_validFrame.f, impl_validFrame.j0, impl_validFrame.j1, impl_validFrame.j2, impl_validFrame.j3, impl_headOf.f, hn, h3, h4, hw, n1, o0, s0]⟩
  · have hw : wi = 0 := by omega
    by_cases n1 : n = 0 <;> by_cases o0 : off = 0
    · exact ⟨true, fun _ => by omega, fun k => by simp [spec_l1Valid.f, spec_l1Valid.j0, spec_l1Valid.j1, spec_l1Valid.j2, spec_l1Valid.j3, hn, h3, h4, hw, n1, o0], fun k => by simp [impl_validFrame.f, impl_validFrame.j0, impl_validFrame.j1, impl_validFrame.j2, impl_validFrame.j3, impl_headOf.f, hn, h3, h4, hw, n1, o0]⟩
    all_goals exact ⟨false, by simp, fun k => by simp [spec_l1Valid.f, spec_l1Valid.j0, spec_l1Valid.j1, spec_l1Valid.j2, spec_l1Valid.j3, hn, h3, h4, hw, n1, o0], fun k => by simp [impl_validFrame.f, impl_validFrame.j0, impl_validFrame.j1, impl_validFrame.j2, impl_validFrame.j3, impl_headOf.f, hn, h3, h4, hw, n1, o0]⟩

/-- The bytes of a number, the highest first. -/
def put (v : Int) : Nat → List Int
  | 0 => []
  | n + 1 => (shr .u64 v (8 * n)) % 256 :: put v n
theorem put_length (v : Int) (n : Nat) : (put v n).length = n := by induction n with | zero => rfl | succ n ih => simp [put, ih]
theorem spec_put (v : Int) (n : Nat) : ∀ (x0 : List Int), n ≤ 8 → x0.length + n ≤ 2000000 → Ev (fun k => spec_l1Put.l0 k x0 v ((n : Int) - 1)) (x0 ++ put v n) := by
  induction n with
  | zero => intro x0 _ _; refine ev_succ ?_; simp only [spec_l1Put.l0]; exact ev_neg (by omega) (ev_eq (Ev.now _) (by simp [put]))
  | succ n ih =>
    intro x0 h8 hl
    refine ev_succ ?_; simp only [spec_l1Put.l0]
    have e : IntKind.u64.wrap (wrap64 (8 * (((n + 1 : Nat) : Int) - 1))) = 8 * n := by rw [w64_in (by omega) (by omega), wr_u64]; omega
    rw [e, w64_in (n := ((n + 1 : Nat) : Int) - 1 - 1) (by omega) (by omega), show ((n + 1 : Nat) : Int) - 1 - 1 = (n : Int) - 1 by omega]
    refine ev_pos (by omega) (ev_pos (by omega) (ev_pos (by omega) ?_))
    exact ev_eq (ih _ (by omega) (by simp; omega)) (by simp [put])
theorem impl_put (v : Int) (n : Nat) : ∀ (x0 : List Int), n ≤ 8 → x0.length + n ≤ 2000000 → Ev (fun k => impl_putBig.l0 k x0 v ((n : Int) - 1)) (x0 ++ put v n) := by
  induction n with
  | zero => intro x0 _ _; refine ev_succ ?_; simp only [impl_putBig.l0]; exact ev_neg (by omega) (ev_eq (Ev.now _) (by simp [put]))
  | succ n ih =>
    intro x0 h8 hl
    refine ev_succ ?_; simp only [impl_putBig.l0]
    have e : wrap64 (8 * (((n + 1 : Nat) : Int) - 1)) = 8 * n := by rw [w64_in (by omega) (by omega)]; omega
    rw [e, w64_in (n := ((n + 1 : Nat) : Int) - 1 - 1) (by omega) (by omega), show ((n + 1 : Nat) : Int) - 1 - 1 = (n : Int) - 1 by omega]
    refine ev_pos (by omega) (ev_pos (by omega) (ev_pos (by omega) ?_))
    exact ev_eq (ih _ (by omega) (by simp; omega)) (by simp [put])
theorem spec_put_is (x0 : List Int) (v w : Int) (n : Nat) (hw : wrap64 (w - 1) = (n : Int) - 1) (h8 : n ≤ 8) (hl : x0.length ≤ 1000000) : Ev (fun k => spec_l1Put.f k x0 v w) (x0 ++ put v n) := by
  unfold spec_l1Put.f; rw [hw]; exact spec_put v n x0 h8 (by omega)
theorem impl_put_is (x0 : List Int) (v w : Int) (n : Nat) (hw : wrap64 (w - 1) = (n : Int) - 1) (h8 : n ≤ 8) (hl : x0.length ≤ 1000000) : Ev (fun k => impl_putBig.f k x0 v w) (x0 ++ put v n) := by
  unfold impl_putBig.f; rw [hw]; exact impl_put v n x0 h8 (by omega)

def headBytes (kd pa sq off wi : Int) (n : Nat) : List Int := (([213, kd % 256, pa % 256, (n : Int) % 256] ++ put (IntKind.u64.wrap sq) 4) ++ put off 8) ++ put (IntKind.u64.wrap wi) 2
def sealed (x : List Int) : List Int := x ++ put (IntKind.u64.wrap (crcOf x)) 4
theorem headBytes_length (kd pa sq off wi : Int) (n : Nat) : (headBytes kd pa sq off wi n).length = 18 := by simp [headBytes, put_length]
theorem spec_seal (x : List Int) (h : x.length ≤ 1000000) : Ev (fun k => spec_l1Seal.f k x) (sealed x) := by
  unfold spec_l1Seal.f
  refine ev_bind (crc_spec_is x (by omega)) (ev_bind (spec_put_is x _ 4 4 (by rw [w64_in (by omega) (by omega)]; rfl) (by omega) h) (Ev.now _))
theorem spec_frame_loop (kd pa sq off wi : Int) (xs : List Int) : ∀ (pre acc : List Int), (pre ++ xs).length ≤ 32 → acc.length + xs.length ≤ 100 →
    Ev (fun k => spec_EncodeFrame.l0 k acc (pre.length : Int) kd pa sq off wi (pre ++ xs)) (sealed (acc ++ xs), 0) := by
  induction xs with
  | nil =>
    intro pre acc hl ha; refine ev_succ ?_; simp only [spec_EncodeFrame.l0]
    simp only [List.length_nil] at ha
    exact ev_neg (by simp) (ev_bind (spec_seal acc (by omega)) (ev_eq (Ev.now _) (by simp)))
  | cons x t ih =>
    intro pre acc hl ha
    simp only [List.length_append, List.length_cons] at hl ha
    refine ev_succ ?_; simp only [spec_EncodeFrame.l0]
    refine ev_pos (by simp; omega) (ev_pos (by omega) (ev_pos (by omega) ?_))
    rw [rd_mid, next_at pre x (by omega), snoc_cons pre t x]
    exact ev_eq (ih (pre ++ [x]) (acc ++ [x]) (by simp; omega) (by simp; omega)) (by simp)
/-- What both answer: the frame's bytes, or nothing. -/
theorem encode_both (kd pa sq off wi : Int) (l : List Int) : ∃ R : List Int × Int, R.1.length ≤ 100 ∧
    Ev (fun k => spec_EncodeFrame.f k kd pa sq off wi l) R ∧ Ev (fun k => impl_EncodeFrame.f k kd pa sq off wi l) R := by
  obtain ⟨r, hr, e1, e2⟩ := valid_same kd pa sq off wi l
  have v1 : Ev (fun k => spec_l1Valid.f k kd pa sq off wi l) r := ev_succ (ev_succ (ev_succ (ev_succ (by simp only [e1]; exact Ev.now _))))
  have v2 : Ev (fun k => impl_validFrame.f k kd pa sq off wi l) r := ev_succ (ev_succ (ev_succ (ev_succ (by simp only [e2]; exact Ev.now _))))
  unfold spec_EncodeFrame.f impl_EncodeFrame.f
  cases r with
  | false => exact ⟨([], 1), by simp, ev_bind v1 (ev_neg (by simp) (Ev.now _)), ev_bind v2 (ev_neg (by simp) (Ev.now _))⟩
  | true =>
    have h32 := hr rfl
    have hh := headBytes_length kd pa sq off wi l.length
    refine ⟨(sealed (headBytes kd pa sq off wi l.length ++ l), 0), by simp [sealed, put_length, hh]; omega, ?_, ?_⟩
    · refine ev_bind v1 (ev_pos (by trivial) ?_)
      refine ev_bind (spec_put_is _ _ 4 4 (by rw [w64_in (by omega) (by omega)]; rfl) (by omega) (by simp)) ?_
      refine ev_bind (spec_put_is _ _ 8 8 (by rw [w64_in (by omega) (by omega)]; rfl) (by omega) (by simp [put_length])) ?_
      refine ev_bind (spec_put_is _ _ 2 2 (by rw [w64_in (by omega) (by omega)]; rfl) (by omega) (by simp [put_length])) ?_
      exact spec_frame_loop kd pa sq off wi l [] (headBytes kd pa sq off wi l.length) (by simpa using h32) (by omega)
    · refine ev_bind v2 (ev_pos (by trivial) ?_)
      refine ev_bind (impl_put_is _ _ 4 4 (by rw [w64_in (by omega) (by omega)]; rfl) (by omega) (by simp)) ?_
      refine ev_bind (impl_put_is _ _ 8 8 (by rw [w64_in (by omega) (by omega)]; rfl) (by omega) (by simp [put_length])) ?_
      refine ev_bind (impl_put_is _ _ 2 2 (by rw [w64_in (by omega) (by omega)]; rfl) (by omega) (by simp [put_length])) ?_
      have hx : ((([213, kd % 256, pa % 256, (l.length : Int) % 256] ++ put (IntKind.u64.wrap sq) 4) ++ put off 8) ++ put (IntKind.u64.wrap wi) 2) = headBytes kd pa sq off wi l.length := rfl
      rw [hx]
      refine ev_pos (by omega) (ev_some ?_)
      refine ev_bind (crc_impl_is _ (by simp; omega)) ?_
      exact ev_bind (impl_put_is _ _ 4 4 (by rw [w64_in (by omega) (by omega)]; rfl) (by omega) (by simp; omega)) (Ev.now _)

theorem FnExactEncodeFrame : laws_FnExactEncodeFrame.Pure := by
  intro kd pa sq off wi l hg
  have hmax : l.length ≤ 9223372036854775807 := hg.2.2.2.2.2.1
  refine Ev.rounds ?_
  unfold laws_FnExactEncodeFrame.f laws_szFrame.f laws_szByteS.f
  rw [w64_in (n := 1048576 - (l.length : Int)) (by omega) (by omega)]
  by_cases big : 1048576 - (l.length : Int) < 0
  · rw [if_pos big]
    simp only [Option.bind_some]
    refine ev_eq (r := true) ?_ rfl
    simp only [if_pos (show (-1 : Int) < 0 by decide)]
    exact Ev.now _
  rw [if_neg big]
  simp only [Option.bind_some, if_neg big]
  have tof : Ev (fun k => laws_toFrame.f k kd pa sq off wi l) (kd, pa, sq, off, wi, l) := by
    unfold laws_toFrame.f; exact ev_bind (toByteS_is l (by omega)) (Ev.now _)
  obtain ⟨R, hR, e1, e2⟩ := encode_both kd pa sq off wi l
  refine ev_bind tof (ev_bind e1 (ev_bind tof (ev_bind e2 (ev_bind (eqByteS_refl R.1 (by omega)) ?_))))
  refine ev_pos (by trivial) ?_
  rw [bne_self_eq_false]
  refine ev_succ ?_; simp only [laws_FnExactEncodeFrame.j0]
  refine ev_neg (by decide) (ev_bind tof ?_)
  have eqf : Ev (fun k => laws_eqFrame.f k kd pa sq off wi l kd pa sq off wi l) true := by
    unfold laws_eqFrame.f
    exact ev_pos rfl (ev_pos rfl (ev_pos rfl (ev_pos rfl (ev_pos rfl (ev_bind (eqByteS_refl l (by omega)) (ev_pos (by trivial) (Ev.now _)))))))
  refine ev_bind eqf (ev_pos (by trivial) ?_)
  obtain ⟨ys, hy, m1, _⟩ := markByteS_is l (by omega)
  have mf : Ev (fun k => laws_markFrame.f k kd pa sq off wi l 1) (1 + (l.length : Int), ys) := by unfold laws_markFrame.f; exact ev_bind m1 (Ev.now _)
  refine ev_bind mf (ev_neg (by simp only []; omega) ?_)
  refine ev_bind (eqByteS_refl R.1 (by omega)) (ev_pos (by trivial) ?_)
  rw [bne_self_eq_false]
  refine ev_succ ?_; simp only [laws_FnExactEncodeFrame.j1]
  refine ev_neg (by decide) ?_
  obtain ⟨zs, hz, m2, m3⟩ := markByteS_is R.1 (by omega)
  refine ev_bind m2 (ev_bind m3 (ev_neg (by omega) (ev_pos rfl ?_)))
  exact ev_bind tof (ev_bind e2 (ev_bind (eqByteS_refl R.1 (by omega)) (ev_pos (by trivial) (ev_pos rfl (Ev.now _)))))

end Go.Proofs.Ytakeenidhkhmiaa.Pure
