/- Small steps for 'from some number of rounds on', and reads and stores in the middle of a list. -/
import Derived.Test.YtakeenidhkhmiaaWWords
import Derived.Test.YtakeenidhkhmiaaBase
namespace Go.Proofs.Ytakeenidhkhmiaa.Base
open Go.RowKit Go.Proofs.YtakeenidhkhmiaaW.PrintWords

theorem ev_succ {ρ : Type} {g : Nat → Option ρ} {r : ρ} (h : Ev (fun k => g (k + 1)) r) : Ev g r := Ev.step (fun _ => rfl) h
theorem ev_pos {ρ : Type} {c : Prop} [Decidable c] {f g : Nat → Option ρ} {r : ρ} (hc : c) (h : Ev f r) : Ev (fun k => if c then f k else g k) r := by simp only [if_pos hc]; exact h
theorem ev_neg {ρ : Type} {c : Prop} [Decidable c] {f g : Nat → Option ρ} {r : ρ} (hc : ¬ c) (h : Ev g r) : Ev (fun k => if c then f k else g k) r := by simp only [if_neg hc]; exact h
theorem ev_bind {α β : Type} {g : Nat → Option α} {f : Nat → α → Option β} {a : α} {r : β} (h : Ev g a) (k : Ev (fun n => f n a) r) : Ev (fun n => (g n).bind (f n)) r := Ev.bind h k
theorem ev_some {α β : Type} {a : α} {f : Nat → α → Option β} {r : β} (k : Ev (fun n => f n a) r) : Ev (fun n => (some a).bind (f n)) r := k
theorem ev_eq {ρ : Type} {g : Nat → Option ρ} {r s : ρ} (h : Ev g r) (e : r = s) : Ev g s := e ▸ h

theorem nat0 : ((0 : Nat) : Int) = 0 := rfl
theorem rd_mid (pre xs : List Int) (x : Int) : rd (pre ++ x :: xs) (pre.length : Int) = x := by simp [rd]
theorem getD_mid {α : Type} (pre xs : List α) (x d : α) : (pre ++ x :: xs).getD (pre.length : Int).toNat d = x := by simp
theorem set_mid {α : Type} (pre xs : List α) (x y : α) : (pre ++ x :: xs).set (pre.length : Int).toNat y = pre ++ y :: xs := by simp
theorem next_at {α : Type} (pre : List α) (x : α) (h : (pre.length : Int) < 9223372036854775807) : wrap64 ((pre.length : Int) + 1) = ((pre ++ [x]).length : Int) := by
  rw [w64_in (by omega) (by omega)]; simp
theorem snoc_cons {α : Type} (pre xs : List α) (x : α) : pre ++ x :: xs = (pre ++ [x]) ++ xs := by simp

end Go.Proofs.Ytakeenidhkhmiaa.Base
