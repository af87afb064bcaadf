/- For every first number and every list of numbers, the program's RecvRun is the reference's, code and outs; it writes into no argument, and its answer is its own memory. No condition. -/
import Derived.Test.YtjkbpcbnfkangaaPFnExactRecvRunx3
import Derived.Test.YtjkbpcbnfkangaaEvB
namespace Go.Proofs.Ytjkbpcbnfkangaa.Pure
open Go.RowKit Go.Proofs.Ytjkbpcbnfkangaa.PFnExactRecvRun Go.Proofs.YtjkbpcbnfkangaaW.PrintWords Go.Proofs.YtjkbpcbnfkangaaW.PrintLast Go.Proofs.Ytjkbpcbnfkangaa.Base

abbrev RecvOut := S80

/-- What a receiver answers. -/
def recv (w : Int) : List Int → List RecvOut
  | [] => []
  | s :: t => if s = w then (⟨1, (w + 1) % 4294967296⟩ : RecvOut) :: recv ((w + 1) % 4294967296) t else (⟨0, w⟩ : RecvOut) :: recv w t

theorem recv_length (w : Int) (l : List Int) : (recv w l).length = l.length := by
  induction l generalizing w with
  | nil => rfl
  | cons s t ih => simp only [recv]; split <;> simp [ih]

theorem spec_loop (isn : Int) (xs : List Int) : ∀ (pre : List Int) (out : List RecvOut) (n : Int), (pre ++ xs).length ≤ 4000 → out.length = pre.length → 0 ≤ n ∧ n < 4294967296 →
    Ev (fun k => spec_RecvRun.l0 k isn (pre ++ xs) out n (pre.length : Int)) (out ++ recv ((isn + n) % 4294967296) xs, 0) := by
  induction xs with
  | nil =>
    intro pre out n hl ho hn
    refine ev_succ ?_
    simp only [spec_RecvRun.l0]
    refine ev_neg (by simp) ?_
    simp only [recv, List.append_nil]
    exact Ev.now _
  | cons s t ih =>
    intro pre out n hl ho hn
    simp only [List.length_append, List.length_cons] at hl
    refine ev_succ ?_
    simp only [spec_RecvRun.l0]
    refine ev_pos (by simp; omega) ?_
    refine ev_pos (by omega) ?_
    rw [rd_mid, next_at pre s (by omega), snoc_cons pre t s]
    by_cases c : s = (isn + n) % 4294967296
    · refine ev_pos c ?_
      refine ev_pos (by omega) ?_
      have e : (isn + (n + 1) % 4294967296) % 4294967296 = ((isn + n) % 4294967296 + 1) % 4294967296 := by omega
      have e2 : (isn + (n + 1)) % 4294967296 = ((isn + n) % 4294967296 + 1) % 4294967296 := by omega
      refine ev_eq (ih (pre ++ [s]) _ _ (by simp; omega) (by simp [ho]) (by omega)) ?_
      simp only [recv, if_pos c, e, e2, List.append_assoc, List.singleton_append]
    · refine ev_neg c ?_
      refine ev_pos (by omega) ?_
      refine ev_eq (ih (pre ++ [s]) _ _ (by simp; omega) (by simp [ho]) hn) ?_
      simp only [recv, if_neg c, List.append_assoc, List.singleton_append]

theorem impl_loop (xs : List Int) : ∀ (pre : List Int) (out : List RecvOut) (w : Int), (pre ++ xs).length ≤ 4000 → out.length = pre.length →
    Ev (fun k => impl_RecvRun.l0 k out w (pre ++ xs) ((pre ++ xs).length : Int) (pre.length : Int)) (out ++ recv w xs, 0) := by
  induction xs with
  | nil =>
    intro pre out w hl ho
    refine ev_succ ?_
    simp only [impl_RecvRun.l0]
    refine ev_neg (by simp) ?_
    simp only [recv, List.append_nil]
    exact Ev.now _
  | cons s t ih =>
    intro pre out w hl ho
    have hlen : ((pre ++ [s]) ++ t).length = (pre ++ s :: t).length := by simp
    simp only [List.length_append, List.length_cons] at hl
    refine ev_succ ?_
    simp only [impl_RecvRun.l0]
    refine ev_pos (by simp; omega) ?_
    refine ev_pos (by omega) ?_
    refine ev_pos (by simp; omega) ?_
    rw [rd_mid, next_at pre s (by omega), snoc_cons pre t s]
    by_cases c : s = w
    · refine ev_pos c ?_
      refine ev_bind (a := 1) (by simp only [impl_mark.f]; exact Ev.now _) ?_
      refine ev_pos (by omega) ?_
      refine ev_eq (ih (pre ++ [s]) _ _ (by simp; omega) (by simp [ho])) ?_
      simp only [recv, if_pos c, List.append_assoc, List.singleton_append]
    · refine ev_neg c ?_
      refine ev_bind (a := 0) (by simp only [impl_mark.f]; exact Ev.now _) ?_
      refine ev_pos (by omega) ?_
      refine ev_eq (ih (pre ++ [s]) _ _ (by simp; omega) (by simp [ho])) ?_
      simp only [recv, if_neg c, List.append_assoc, List.singleton_append]

/-- What both answer. -/
def answer (isn : Int) (l : List Int) : List RecvOut × Int := if (l.length : Int) > 4000 then ([], 5) else (recv isn l, 0)

theorem spec_is (isn : Int) (l : List Int) (h : 0 ≤ isn ∧ isn ≤ 4294967295) : Ev (fun k => spec_RecvRun.f k isn l) (answer isn l) := by
  unfold spec_RecvRun.f answer
  by_cases c : (l.length : Int) > 4000
  · refine ev_pos c ?_; rw [if_pos c]; exact Ev.now _
  · refine ev_neg c ?_; rw [if_neg c]
    have := spec_loop isn l [] [] 0 (by simp; omega) rfl (by omega)
    simp only [List.nil_append, List.length_nil, nat0] at this
    refine ev_eq this ?_
    congr 2; omega

theorem impl_is (isn : Int) (l : List Int) : Ev (fun k => impl_RecvRun.f k isn l) (answer isn l) := by
  unfold impl_RecvRun.f answer
  by_cases c : (l.length : Int) > 4000
  · refine ev_pos c ?_; rw [if_pos c]; exact Ev.now _
  · refine ev_neg c ?_; rw [if_neg c]
    have := impl_loop l [] [] isn (by simp; omega) rfl
    simpa only [List.nil_append, List.length_nil, nat0] using this

theorem toUint32S_loop (xs : List Int) : ∀ (pre ys : List Int), ys.length = xs.length → (pre ++ xs).length ≤ 1048576 →
    Ev (fun k => laws_toUint32S.l0 k (pre ++ xs) (pre ++ ys) (pre.length : Int)) (pre ++ xs) := by
  induction xs with
  | nil =>
    intro pre ys hy hl
    obtain rfl : ys = [] := List.eq_nil_of_length_eq_zero hy
    refine ev_succ ?_; simp only [laws_toUint32S.l0]; exact ev_neg (by simp) (Ev.now _)
  | cons s t ih =>
    intro pre ys hy hl
    obtain ⟨u, us, rfl⟩ : ∃ u us, ys = u :: us := by cases ys with | nil => simp at hy | cons u us => exact ⟨u, us, rfl⟩
    simp only [List.length_append, List.length_cons] at hl hy
    refine ev_succ ?_
    simp only [laws_toUint32S.l0]
    refine ev_pos (by simp; omega) ?_
    refine ev_pos (by omega) ?_
    refine ev_pos (by simp; omega) ?_
    rw [rd_mid, set_mid, next_at pre s (by omega), snoc_cons pre us s, snoc_cons pre t s]
    exact ih (pre ++ [s]) us (by omega) (by simp; omega)
theorem toUint32S_is (l : List Int) (hl : l.length ≤ 1048576) : Ev (fun k => laws_toUint32S.f k l) l := by
  unfold laws_toUint32S.f
  refine ev_pos (by omega) (ev_pos (by omega) ?_)
  exact toUint32S_loop l [] _ (by simp) (by simpa using hl)
theorem eqUint32S_loop (xs : List Int) : ∀ pre : List Int, (pre ++ xs).length ≤ 4611686018427387904 → Ev (fun k => laws_eqUint32S.l0 k (pre ++ xs) (pre ++ xs) (pre.length : Int)) true := by
  induction xs with
  | nil => intro pre hl; refine ev_succ ?_; simp only [laws_eqUint32S.l0]; exact ev_neg (by simp) (Ev.now _)
  | cons s t ih =>
    intro pre hl
    simp only [List.length_append, List.length_cons] at hl
    refine ev_succ ?_
    simp only [laws_eqUint32S.l0]
    refine ev_pos (by simp; omega) ?_
    refine ev_pos (by omega) ?_
    refine ev_pos (by simp; omega) ?_
    refine ev_pos trivial ?_
    rw [next_at pre s (by omega), snoc_cons pre t s]
    exact ih (pre ++ [s]) (by simp; omega)
theorem eqUint32S_refl (l : List Int) (hl : l.length ≤ 4611686018427387904) : Ev (fun k => laws_eqUint32S.f k l l) true := by
  unfold laws_eqUint32S.f
  refine ev_pos rfl ?_
  exact eqUint32S_loop l [] (by simpa using hl)
theorem markUint32S_loop (xs : List Int) : ∀ (pre : List Int) (m : Int), (pre ++ xs).length ≤ 1048576 → 1 ≤ m → m + xs.length ≤ 1000000000 →
    ∃ ys, Ev (fun k => laws_markUint32S.l0 k (pre ++ xs) m (pre.length : Int)) (m + xs.length, ys) := by
  induction xs with
  | nil => intro pre m hl hm hb; refine ⟨pre, ?_⟩; refine ev_succ ?_; simp only [laws_markUint32S.l0]; exact ev_neg (by simp) (ev_eq (Ev.now _) (by simp))
  | cons s t ih =>
    intro pre m hl hm hb
    simp only [List.length_append, List.length_cons] at hl hb
    obtain ⟨ys, h⟩ := ih (pre ++ [m % 4294967296]) (m + 1) (by simp; omega) (by omega) (by omega)
    refine ⟨ys, ?_⟩
    refine ev_succ ?_
    simp only [laws_markUint32S.l0]
    refine ev_pos (by simp; omega) ?_
    refine ev_pos (by omega) ?_
    rw [set_mid, next_at pre (m % 4294967296) (by omega), snoc_cons pre t, w64_in (n := m + 1) (by omega) (by omega)]
    refine ev_eq h ?_
    simp only [List.length_cons, Prod.mk.injEq, and_true]; omega
theorem markUint32S_is (l : List Int) (m : Int) (hl : l.length ≤ 1048576) (hm : 1 ≤ m) (hb : m + l.length ≤ 1000000000) : ∃ y, Ev (fun k => laws_markUint32S.f k l m) (m + l.length, y) := by
  obtain ⟨y, h⟩ := markUint32S_loop l [] m (by simpa using hl) hm hb
  exact ⟨y, by simpa only [laws_markUint32S.f, List.nil_append, List.length_nil, nat0] using h⟩

theorem eqOut_refl (xs : List RecvOut) : ∀ pre : List RecvOut, (pre ++ xs).length ≤ 4611686018427387904 → Ev (fun k => laws_eqRecvOutS.l0 k (pre ++ xs) (pre ++ xs) (pre.length : Int)) true := by
  induction xs with
  | nil => intro pre hl; refine ev_succ ?_; simp only [laws_eqRecvOutS.l0]; exact ev_neg (by simp) (Ev.now _)
  | cons s t ih =>
    intro pre hl
    simp only [List.length_append, List.length_cons] at hl
    refine ev_succ ?_
    simp only [laws_eqRecvOutS.l0]
    refine ev_pos (by simp; omega) ?_
    refine ev_pos (by omega) ?_
    refine ev_pos (by simp; omega) ?_
    refine ev_bind (a := true) (by simp only [laws_eqRecvOut.f]; exact Ev.now _) ?_
    refine ev_pos rfl ?_
    rw [next_at pre s (by omega), snoc_cons pre t s]
    exact ih (pre ++ [s]) (by simp; omega)
theorem eqOutS_refl (l : List RecvOut) (hl : l.length ≤ 4611686018427387904) : Ev (fun k => laws_eqRecvOutS.f k l l) true := by
  unfold laws_eqRecvOutS.f
  refine ev_pos rfl ?_
  exact eqOut_refl l [] (by simpa using hl)

theorem markOut (xs : List RecvOut) : ∀ (pre : List RecvOut) (m : Int), (pre ++ xs).length ≤ 1048576 → 1 ≤ m → m + 2 * xs.length ≤ 1000000000 →
    ∃ ys, ys.length = xs.length ∧ Ev (fun k => laws_markRecvOutS.l0 k (pre ++ xs) m (pre.length : Int)) (m + 2 * xs.length, pre ++ ys) ∧
      ∀ pre' : List RecvOut, pre'.length = pre.length → Ev (fun k => laws_heldRecvOutS.l0 k (pre' ++ ys) m (pre'.length : Int)) (m + 2 * xs.length) := by
  induction xs with
  | nil =>
    intro pre m hl hm hb
    refine ⟨[], rfl, ?_, fun pre' hp => ?_⟩
    · refine ev_succ ?_; simp only [laws_markRecvOutS.l0]; exact ev_neg (by simp) (ev_eq (Ev.now _) (by simp))
    · refine ev_succ ?_; simp only [laws_heldRecvOutS.l0]; exact ev_neg (by simp) (ev_eq (Ev.now _) (by simp))
  | cons s t ih =>
    intro pre m hl hm hb
    simp only [List.length_append, List.length_cons] at hl hb
    have e1 : wrap64 (m + 1) = m + 1 := w64_in (by omega) (by omega)
    have e2 : wrap64 (m + 1 + 1) = m + 2 := by rw [w64_in (n := m + 1 + 1) (by omega) (by omega)]; omega
    obtain ⟨ys, hy, h1, h2⟩ := ih (pre ++ [(⟨m, (m + 1) % 4294967296⟩ : RecvOut)]) (m + 2) (by simp; omega) (by omega) (by omega)
    refine ⟨⟨m, (m + 1) % 4294967296⟩ :: ys, by simp [hy], ?_, fun pre' hp => ?_⟩
    · refine ev_succ ?_
      simp only [laws_markRecvOutS.l0]
      refine ev_pos (by simp; omega) ?_
      refine ev_pos (by omega) ?_
      refine ev_some ?_
      simp only [rd_T80, getD_mid, set_mid, e1, e2]
      rw [next_at pre (⟨m, (m + 1) % 4294967296⟩ : RecvOut) (by omega), snoc_cons pre t (⟨m, (m + 1) % 4294967296⟩ : RecvOut)]
      refine ev_eq h1 ?_
      simp only [List.length_cons, List.append_assoc, List.singleton_append, Prod.mk.injEq, and_true]; omega
    · refine ev_succ ?_
      simp only [laws_heldRecvOutS.l0]
      refine ev_pos (by simp; omega) ?_
      refine ev_pos (by omega) ?_
      simp only [rd_T80, getD_mid, e1, e2]
      rw [next_at pre' (⟨m, (m + 1) % 4294967296⟩ : RecvOut) (by omega), snoc_cons pre' ys]
      refine ev_pos trivial (ev_pos trivial ?_)
      refine ev_eq (h2 (pre' ++ [(⟨m, (m + 1) % 4294967296⟩ : RecvOut)]) (by simp [hp])) ?_
      simp only [List.length_cons]; omega

theorem FnExactRecvRun : laws_FnExactRecvRun.Pure := by
  intro a0 l1 h0 _ _ hw
  have b0 := bounds_u32 h0
  refine Ev.rounds ?_
  unfold laws_FnExactRecvRun.f
  by_cases big : (l1.length : Int) > 1048576
  · exact ev_pos big (Ev.now _)
  refine ev_neg big ?_
  have hans : (answer a0 l1).1.length ≤ 4000 := by
    unfold answer; split
    · simp
    · rw [recv_length]; omega
  refine ev_bind (toUint32S_is l1 (by omega)) ?_
  refine ev_bind (spec_is a0 l1 b0) ?_
  refine ev_bind (toUint32S_is l1 (by omega)) ?_
  refine ev_bind (impl_is a0 l1) ?_
  refine ev_bind (eqOutS_refl _ (by omega)) ?_
  refine ev_pos rfl ?_
  rw [bne_self_eq_false]
  refine ev_succ ?_
  simp only [laws_FnExactRecvRun.j0]
  refine ev_neg (by decide) ?_
  refine ev_bind (toUint32S_is l1 (by omega)) ?_
  refine ev_bind (eqUint32S_refl l1 (by omega)) ?_
  refine ev_pos rfl ?_
  obtain ⟨y, hy⟩ := markUint32S_is l1 1 (by omega) (by omega) (by omega)
  refine ev_bind hy ?_
  refine ev_neg (by simp only; omega) ?_
  refine ev_bind (eqOutS_refl _ (by omega)) ?_
  refine ev_pos rfl ?_
  rw [bne_self_eq_false]
  refine ev_succ ?_
  simp only [laws_FnExactRecvRun.j1]
  refine ev_neg (by decide) ?_
  obtain ⟨ys, _, m1, m2⟩ := markOut (answer a0 l1).1 [] 1 (by simp; omega) (by omega) (by omega)
  refine ev_bind (a := (_, ys)) (by simpa only [laws_markRecvOutS.f, List.nil_append, List.length_nil, nat0] using m1) ?_
  refine ev_bind (by simpa only [laws_heldRecvOutS.f, List.nil_append, List.length_nil, nat0] using m2 [] rfl) ?_
  refine ev_neg (by omega) ?_
  refine ev_pos rfl ?_
  refine ev_bind (toUint32S_is l1 (by omega)) ?_
  refine ev_bind (impl_is a0 l1) ?_
  refine ev_bind (eqOutS_refl _ (by omega)) ?_
  exact ev_pos rfl (ev_pos rfl (Ev.now _))

end Go.Proofs.Ytjkbpcbnfkangaa.Pure
