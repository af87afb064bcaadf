/- Both plans are one, and what it says. Conditions: bounds. -/
import Derived.Test.YtakeenidhkhmiaaPureFnPlan1
set_option linter.unusedSimpArgs false
set_option linter.unusedVariables false
namespace Go.AK
open Go
def used (pol : Int) (picks : List Int) : Int := if pol = 4 ∧ 0 < picks.length then 1 else 0
def pickOf (picks : List Int) : Int := if 0 < picks.length then rd 0 picks 0 else 0
/-- The first mapping that is sent again. -/
def hit (paths : List V) : Int → List S84 → Option (Int × S84)
  | _, [] => none
  | i, x :: t => if x.f4 = 1 ∧ el x.f3 0 paths ≠ [] then some (i, x) else hit paths (i + 1) t
theorem hit_mem (paths : List V) (xs : List S84) : ∀ {i : Int} {q : Int × S84}, hit paths i xs = some q → q.2 ∈ xs := by
  induction xs with
  | nil => intro i q h; cases h
  | cons x t ih =>
    intro i q h
    rw [hit] at h
    split at h
    · cases h; simp
    · exact List.mem_cons_of_mem _ (ih h)
theorem hit_at (paths : List V) (maps : List S84) (xs : List S84) : ∀ {i : Int} {q : Int × S84}, 0 ≤ i → maps.drop i.toNat = xs → hit paths i xs = some q → 0 ≤ q.1 ∧ q.1 < (maps.length : Int) ∧ rd z84 maps q.1 = q.2 ∧ q.2.f4 = 1 ∧ el q.2.f3 0 paths ≠ [] := by
  induction xs with
  | nil => intro i q _ _ h; cases h
  | cons x t ih =>
    intro i q i0 hd h
    obtain ⟨q1, q2, q3⟩ := suf_cons i0 hd z84
    rw [hit] at h
    split at h
    · rename_i c; cases h; exact ⟨i0, q1, q2, c⟩
    · exact ih (by omega) q3 h
/-- What a plan is. -/
def PlanIs (paths : List V) (maps : List S84) (mapped written edge pay : Int) (R : Int → List Int × Int) (a b c d : Int) (l : List Int) (e : Int) : Prop :=
  (a = 0 ∧ l = []) ∨ (a = 1 ∧ 0 ≤ b ∧ b < (maps.length : Int) ∧ (rd z84 maps b).f4 = 1 ∧ c = (rd z84 maps b).f0 ∧ d = (rd z84 maps b).f1 ∧ l = (R (rd z84 maps b).f3).1 ∧ e = (R (rd z84 maps b).f3).2 ∧ el (rd z84 maps b).f3 0 paths ≠ []) ∨
  (a = 2 ∧ c = mapped ∧ (mapped < written ∧ mapped < edge) ∧ spec_l6Least.f (IntKind.u64.wrap pay) (IntKind.u64.wrap (written - mapped)) (IntKind.u64.wrap (edge - mapped)) = some d ∧ l = (R 0).1 ∧ e = (R 0).2 ∧ el 0 0 paths ≠ []) ∨
  (a = 3 ∧ l = (R 0).1 ∧ e = (R 0).2 ∧ el 0 0 paths ≠ [])
abbrev T8 := Int × Int × Int × Int × Int × List Int × Int × Int
def hitS : Option (Int × S84) → T8
  | none => (0, 0, 0, 0, 0, [], 0, 0)
  | some (k, x) => (x.f3, 1, k, x.f0, x.f1, [], 0, 0)
section
variable (pol turn : Int) (picks : List Int) (paths : List V) (maps : List S84) (mm mapped written edge closed fin pay : Int)
theorem spec_loop (u1 u2 u3 u4 u6 u7 : Int) (u5 : List Int) (h8 : paths.length ≤ 8) (hm : maps.length ≤ 256) (om : ∀ x ∈ maps, okM x) (xs : List S84) : ∀ i : Int, 0 ≤ i → maps.drop i.toNat = xs →
    spec_l6Plan.l0 paths maps pol turn mm mapped written edge closed fin pay u1 u2 u3 u4 u5 u6 u7 0 i 0 0 0 0 [] 0 0 = some (hitS (hit paths i xs)) := by
  induction xs with
  | nil => intro i i0 hd; rw [spec_l6Plan.l0, if_neg (suf_nil i0 hd), some_bind, if_neg nft]; rfl
  | cons x t ih =>
    intro i i0 hd
    obtain ⟨q1, q2, q3⟩ := suf_cons i0 hd z84
    have hi : 0 ≤ i ∧ i < (maps.length : Int) := ⟨i0, q1⟩
    have ox := om x (by rw [← q2]; exact rd_mem i0 q1)
    have e0 : decide ((0 : Int) = 0) = true := rfl
    rw [spec_l6Plan.l0, if_pos q1, some_bind, if_pos e0, if_pos hi, q2, elig_is x.f3 (by omega) ox.2 paths h8, wi64_in (n := i + 1) (by omega) (by omega), hit]
    by_cases a : x.f4 = 1
    · rw [if_pos a, some_bind, some_bind]
      by_cases b : el x.f3 0 paths = []
      · have g : ¬ decide (((el x.f3 0 paths).length : Int) > 0) = true := by rw [b]; decide
        rw [if_neg g, some_bind, if_neg (fun h => h.2 b)]
        exact ih (i + 1) (by omega) q3
      · have hl : 0 < (el x.f3 0 paths).length := List.length_pos_iff.2 b
        have g : decide (((el x.f3 0 paths).length : Int) > 0) = true := decide_eq_true (by omega)
        rw [if_pos g, some_bind, if_pos ⟨a, b⟩]
        dsimp only
        rw [spec_l6Plan.l0]
        have J : (if i + 1 < (maps.length : Int) then (some (decide ((1 : Int) = 0))) else (some false)) = some false := by split <;> rfl
        rw [J, some_bind, if_neg nft]; rfl
    · rw [if_neg a, some_bind, if_neg nft, some_bind, if_neg (fun h => a h.1)]
      exact ih (i + 1) (by omega) q3
variable (R : Int → List Int × Int) (tag : Int) (nm : ByteArray) (hR : ∀ m, 0 ≤ m → m ≤ 255 → (((R m).1 = [] ↔ el m 0 paths = []) ∧ impl_choose.f nm tag pol turn (pickOf picks) paths m = some (R m)))
include hR
theorem try_is (kind place off len m : Int) (h0 : 0 ≤ m) (h1 : m ≤ 255) : impl_PlanSend_1.f kind place off len [] 0 0 m nm tag pol turn picks paths maps mm mapped written edge closed fin pay (pickOf picks) =
    some (kind, place, off, len, (R m).1, (R m).2, used pol picks, decide (((R m).1.length : Int) > 0)) := by
  unfold impl_PlanSend_1.f
  rw [(hR m h0 h1).2, some_bind]
  unfold used impl_mark.f
  by_cases p : pol = 4
  · rw [if_pos p]
    by_cases k : 0 < picks.length
    · have g : decide ((picks.length : Int) > 0) = true := decide_eq_true (by omega)
      rw [g, if_pos rfl, some_bind, some_bind, if_pos ⟨p, k⟩]
    · have g : decide ((picks.length : Int) > 0) = false := decide_eq_false (by omega)
      rw [g, if_neg nft, some_bind, some_bind, if_neg (fun h => k h.2)]
  · rw [if_neg p, if_neg nft, some_bind, some_bind, if_neg (fun h => p h.1)]
theorem impl_loop (u1 u2 u3 u4 u6 u7 : Int) (u5 : List Int) (hm : maps.length ≤ 256) (om : ∀ x ∈ maps, okM x) (xs : List S84) : ∀ i : Int, 0 ≤ i → maps.drop i.toNat = xs →
    impl_PlanSend.l0 picks paths maps (maps.length : Int) pol turn mm mapped written edge closed fin pay u1 u2 u3 u4 u5 u6 u7 (pickOf picks) nm tag i = some (match hit paths i xs with
      | none => .a ()
      | some (k, x) => .b (1, k, x.f0, x.f1, (R x.f3).2, used pol picks, 1, k, x.f0, x.f1, (R x.f3).1, (R x.f3).2, used pol picks)) := by
  induction xs with
  | nil => intro i i0 hd; rw [impl_PlanSend.l0, if_neg (suf_nil i0 hd)]; rfl
  | cons x t ih =>
    intro i i0 hd
    obtain ⟨q1, q2, q3⟩ := suf_cons i0 hd z84
    have hi : 0 ≤ i ∧ i < (maps.length : Int) := ⟨i0, q1⟩
    have ox := om x (by rw [← q2]; exact rd_mem i0 q1)
    have nx := ih (i + 1) (by omega) q3
    rw [impl_PlanSend.l0, if_pos q1, if_pos hi, q2, wi64_in (n := i + 1) (by omega) (by omega), hit]
    by_cases a : x.f4 = 1
    · have tr := try_is pol turn picks paths maps mm mapped written edge closed fin pay R tag nm hR 1 i x.f0 x.f1 x.f3 (by have := ox.1; omega) ox.2
      have he := (hR x.f3 (by have := ox.1; omega) ox.2).1
      rw [if_pos a, tr, some_bind]
      dsimp only
      by_cases b : el x.f3 0 paths = []
      · have g : ¬ decide (((R x.f3).1.length : Int) > 0) = true := by rw [he.2 b]; decide
        rw [if_neg g, if_neg (fun h => h.2 b)]
        exact nx
      · have hl : 0 < (R x.f3).1.length := List.length_pos_iff.2 (fun h => b (he.1 h))
        have g : decide (((R x.f3).1.length : Int) > 0) = true := decide_eq_true (by omega)
        rw [if_pos g, if_pos ⟨a, b⟩]
    · rw [if_neg a, if_neg (fun h => a h.1)]
      exact nx
omit hR in
theorem least_is (a b c : Int) : spec_l6Least.f a b c = some (IntKind.i64.wrap (if c < (if b < a then b else a) then c else (if b < a then b else a))) := by
  unfold spec_l6Least.f
  by_cases h : b < a
  · rw [if_pos h, some_bind, if_pos h]; split <;> rfl
  · rw [if_neg h, some_bind, if_neg h]; split <;> rfl
omit hR in
theorem pick_s : (if (picks.length : Int) > 0 then (if (0 : Int) ≤ 0 ∧ 0 < (picks.length : Int) then (if pol = 4 then (some ((rd 0 picks 0), (1 : Int))) else (some ((rd 0 picks 0), 0))) else none) else (some (0, 0))) = some (pickOf picks, used pol picks) := by
  unfold pickOf used
  by_cases k : 0 < picks.length
  · have g : (0 : Int) ≤ 0 ∧ 0 < (picks.length : Int) := by omega
    rw [if_pos (show (picks.length : Int) > 0 by omega), if_pos g, if_pos k]
    by_cases p : pol = 4
    · rw [if_pos p, if_pos ⟨p, k⟩]
    · rw [if_neg p, if_neg (fun h => p h.1)]
  · rw [if_neg (show ¬ (picks.length : Int) > 0 by omega), if_neg k, if_neg (fun h => k h.2)]
omit hR in
theorem pick_i : (if (picks.length : Int) > 0 then (if (0 : Int) ≤ 0 ∧ 0 < (picks.length : Int) then (some (rd 0 picks 0)) else none) else (some 0)) = some (pickOf picks) := by
  unfold pickOf
  by_cases k : 0 < picks.length
  · have g : (0 : Int) ≤ 0 ∧ 0 < (picks.length : Int) := by omega
    rw [if_pos (show (picks.length : Int) > 0 by omega), if_pos g, if_pos k]
  · rw [if_neg (show ¬ (picks.length : Int) > 0 by omega), if_neg k]
theorem plan_same (hI : InOk pol turn picks paths maps mm mapped written edge closed fin pay) (hS : ∀ m, 0 ≤ m → m ≤ 255 → spec_l6Pick.f pol turn (pickOf picks) paths m = some (R m)) (hc : impl_checkPlan.f pol turn picks paths maps mm mapped written edge closed fin pay = some 0) (hp : impl_policyOf.f pol = some (nm, tag, true)) :
    ∃ a b c d l e f, spec_l6Plan.f pol turn picks paths maps mm mapped written edge closed fin pay = some (a, b, c, d, l, e, f) ∧ impl_PlanSend.f pol turn picks paths maps mm mapped written edge closed fin pay = some (a, b, c, d, l, e, f, 0) ∧ PlanIs paths maps mapped written edge pay R a b c d l e := by
  have om := hI.mok
  have SL := spec_loop pol turn paths maps mm mapped written edge closed fin pay 0 0 0 0 0 0 [] hI.len.2 hI.mlen om maps 0 (by omega) rfl
  have IL := impl_loop pol turn picks paths maps mm mapped written edge closed fin pay R tag nm hR 0 0 0 0 0 0 [] hI.mlen om maps 0 (by omega) rfl
  have TR := fun kind place off len => try_is pol turn picks paths maps mm mapped written edge closed fin pay R tag nm hR kind place off len 0 (by omega) (by omega)
  have E0 := elig_is 0 (by omega) (by omega) paths hI.len.2
  have he := (hR 0 (by omega) (by omega)).1
  have hS0 := hS 0 (by omega) (by omega)
  unfold spec_l6Plan.f impl_PlanSend.f
  rw [SL, some_bind, hc, some_bind, if_neg (fun h : ((0 : Int) ≠ 0) => h rfl), pick_i, some_bind, hp, some_bind]
  dsimp only
  rw [IL, some_bind]
  cases hh : hit paths 0 maps with
  | some q =>
    obtain ⟨k, x⟩ := q
    have ox := om x (hit_mem paths maps hh)
    have n1 : ¬ (1 : Int) = 0 := by decide
    have hSx := hS x.f3 (by have := ox.1; omega) ox.2
    simp only [hitS, n1, some_bind, pick_s, hSx, Bool.false_eq_true, reduceCtorEq, if_false, if_true]
    have ha := hit_at paths maps maps (by omega) rfl hh
    dsimp only at ha
    exact ⟨_, _, _, _, _, _, _, rfl, rfl, .inr (.inl ⟨rfl, ha.1, ha.2.1, by rw [ha.2.2.1]; exact ha.2.2.2.1, by rw [ha.2.2.1], by rw [ha.2.2.1], by rw [ha.2.2.1], by rw [ha.2.2.1], by rw [ha.2.2.1]; exact ha.2.2.2.2⟩)⟩
  | none =>
    simp only [hitS, if_true]
    rw [E0, some_bind]
    have n2 : ¬ (2 : Int) = 0 := by decide
    have n3 : ¬ (3 : Int) = 0 := by decide
    -- conditions
    have jr : (if (maps.length : Int) < mm then (some (decide (((el 0 0 paths).length : Int) > 0))) else (some false)) = some (decide ((maps.length : Int) < mm ∧ el 0 0 paths ≠ [])) := by
      by_cases q : (maps.length : Int) < mm
      · rw [if_pos q]; congr 1; rw [decide_eq_decide]
        exact ⟨fun h => ⟨q, fun z => by rw [z] at h; simp at h⟩, fun h => by have := List.length_pos_iff.2 h.2; omega⟩
      · rw [if_neg q]; congr 1; symm; rw [decide_eq_false_iff_not]; exact fun h => q h.1
    have ji : (if mapped < written then (if mapped < edge then (some (decide ((maps.length : Int) < mm))) else (some false)) else (some false)) = some (decide (mapped < written ∧ mapped < edge ∧ (maps.length : Int) < mm)) := by
      (repeat' split) <;> first | (congr 1; symm; rw [decide_eq_false_iff_not]; omega) | (congr 1; rw [decide_eq_decide]; omega)
    have jf : (if closed = 1 then (if fin = 0 then (if mapped = written then (some (decide ((maps.length : Int) < mm))) else (some false)) else (some false)) else (some false)) = some (decide ((closed = 1 ∧ fin = 0 ∧ mapped = written) ∧ (maps.length : Int) < mm)) := by
      (repeat' split) <;> first | (congr 1; symm; rw [decide_eq_false_iff_not]; omega) | (congr 1; rw [decide_eq_decide]; omega)
    have js : (if closed = 1 then (if fin = 0 then (some (decide (mapped = written))) else (some false)) else (some false)) = some (decide (closed = 1 ∧ fin = 0 ∧ mapped = written)) := by
      (repeat' split) <;> first | (congr 1; symm; rw [decide_eq_false_iff_not]; omega) | (congr 1; rw [decide_eq_decide]; omega)
    rw [jr, ji, jf, js]
    have J : (if mapped < written then (some (true, decide (mapped < edge))) else (some (true, false)) : Option (Bool × Bool)) = some (true, decide (mapped < written ∧ mapped < edge)) := by
      by_cases q : mapped < written
      · rw [if_pos q]; congr 2; rw [decide_eq_decide]; exact ⟨fun h => ⟨q, h⟩, fun h => h.2⟩
      · rw [if_neg q]; congr 2; symm; rw [decide_eq_false_iff_not]; exact fun h => q h.1
    simp only [some_bind, TR, least_is, J]
    by_cases room : (maps.length : Int) < mm
    · have b1 : decide (mapped < written ∧ mapped < edge ∧ (maps.length : Int) < mm) = decide (mapped < written ∧ mapped < edge) := by
        rw [decide_eq_decide]; exact ⟨fun h => ⟨h.1, h.2.1⟩, fun h => ⟨h.1, h.2, room⟩⟩
      have b2 : decide ((closed = 1 ∧ fin = 0 ∧ mapped = written) ∧ (maps.length : Int) < mm) = decide (closed = 1 ∧ fin = 0 ∧ mapped = written) := by
        rw [decide_eq_decide]; exact ⟨fun h => h.1, fun h => ⟨h, room⟩⟩
      rw [b1, b2]
      generalize hD : decide (mapped < written ∧ mapped < edge) = D
      generalize decide (closed = 1 ∧ fin = 0 ∧ mapped = written) = F
      by_cases em : el 0 0 paths = []
      · have b3 : decide ((maps.length : Int) < mm ∧ el 0 0 paths ≠ []) = false := decide_eq_false (fun h => h.2 em)
        have g0 : decide (((R 0).1.length : Int) > 0) = false := by rw [he.2 em]; rfl
        rw [b3, g0]
        cases D <;> cases F <;> simp only [some_bind, Bool.false_eq_true, reduceCtorEq, if_false, if_true] <;> exact ⟨_, _, _, _, _, _, _, rfl, rfl, .inl ⟨rfl, rfl⟩⟩
      · have b3 : decide ((maps.length : Int) < mm ∧ el 0 0 paths ≠ []) = true := decide_eq_true ⟨room, em⟩
        have hl : 0 < (R 0).1.length := List.length_pos_iff.2 (fun h => em (he.1 h))
        have g0 : decide (((R 0).1.length : Int) > 0) = true := decide_eq_true (by omega)
        rw [b3, g0]
        cases D
        · cases F
          · simp only [some_bind, Bool.false_eq_true, reduceCtorEq, if_false, if_true]; exact ⟨_, _, _, _, _, _, _, rfl, rfl, .inl ⟨rfl, rfl⟩⟩
          · simp only [some_bind, Bool.false_eq_true, reduceCtorEq, if_false, if_true, n3, pick_s, hS0]; exact ⟨_, _, _, _, _, _, _, rfl, rfl, .inr (.inr (.inr ⟨rfl, rfl, rfl, em⟩))⟩
        · simp only [some_bind, Bool.false_eq_true, reduceCtorEq, if_false, if_true, n2, pick_s, hS0]; exact ⟨_, _, _, _, _, _, _, rfl, rfl, .inr (.inr (.inl ⟨rfl, rfl, of_decide_eq_true hD, least_is _ _ _, rfl, rfl, em⟩))⟩
    · have b1 : decide (mapped < written ∧ mapped < edge ∧ (maps.length : Int) < mm) = false := decide_eq_false (fun h => room h.2.2)
      have b2 : decide ((closed = 1 ∧ fin = 0 ∧ mapped = written) ∧ (maps.length : Int) < mm) = false := decide_eq_false (fun h => room h.2)
      have b3 : decide ((maps.length : Int) < mm ∧ el 0 0 paths ≠ []) = false := decide_eq_false (fun h => room h.1)
      rw [b1, b2, b3]
      simp only [some_bind, Bool.false_eq_true, reduceCtorEq, if_false, if_true]
      exact ⟨_, _, _, _, _, _, _, rfl, rfl, .inl ⟨rfl, rfl⟩⟩
end
structure RIs (pol turn pick : Int) (paths : List V) (R : Int → List Int × Int) (m : Int) : Prop where
  sub : ∀ p ∈ (R m).1, p ∈ el m 0 paths
  emp : (R m).1 = [] ↔ el m 0 paths = []
  one : (R m).1 ≠ [] → (pol ≠ 3 → (R m).1.length = 1) ∧ (pol = 3 → (R m).1 = el m 0 paths)
  pick : impl_Pick.f pol turn pick paths m = some ((R m).1, (R m).2, 0)
theorem plan_both (pol turn : Int) (picks : List Int) (paths : List V) (maps : List S84) (mm mapped written edge closed fin pay : Int) :
    ∃ a b c d l e f k, spec_PlanSend.f pol turn picks paths maps mm mapped written edge closed fin pay = some (a, b, c, d, l, e, f, k) ∧ impl_PlanSend.f pol turn picks paths maps mm mapped written edge closed fin pay = some (a, b, c, d, l, e, f, k) ∧
      (k ≠ 0 → a = 0 ∧ l = []) ∧ (k = 0 → InOk pol turn picks paths maps mm mapped written edge closed fin pay ∧ ∃ R : Int → List Int × Int, (∀ m, 0 ≤ m → m ≤ 255 → RIs pol turn (pickOf picks) paths R m) ∧ PlanIs paths maps mapped written edge pay R a b c d l e) := by
  obtain ⟨k, k1, k2, k3⟩ := code_both pol turn picks paths maps mm mapped written edge closed fin pay
  unfold spec_PlanSend.f
  rw [k1, some_bind]
  by_cases z : k = 0
  · subst z
    have hI := k3 rfl
    have hpo : ∃ nm, impl_policyOf.f pol = some (nm, 112 + pol, true) := by
      have hp := hI.pol
      have : pol = 1 ∨ pol = 2 ∨ pol = 3 ∨ pol = 4 := by omega
      rcases this with rfl | rfl | rfl | rfl <;> exact ⟨_, rfl⟩
    obtain ⟨nm, hp⟩ := hpo
    have C := fun m (h : 0 ≤ m ∧ m ≤ 255) => choose_both pol turn (pickOf picks) m paths nm hI.pol hI.turn h.1 h.2 hI.len.2 hI.ok
    let R : Int → List Int × Int := fun m => (spec_l6Pick.f pol turn (pickOf picks) paths m).getD ([], 0)
    have CR : ∀ m, 0 ≤ m → m ≤ 255 → (∀ p ∈ (R m).1, p ∈ el m 0 paths) ∧ ((R m).1 = [] ↔ el m 0 paths = []) ∧ spec_l6Pick.f pol turn (pickOf picks) paths m = some (R m) ∧ impl_choose.f nm (112 + pol) pol turn (pickOf picks) paths m = some (R m) := by
      intro m h0 h1
      obtain ⟨Q, q1, q0, q2, q3, q4⟩ := C m ⟨h0, h1⟩
      have : R m = Q := by show (spec_l6Pick.f pol turn (pickOf picks) paths m).getD ([], 0) = Q; rw [q3]; rfl
      rw [this]; exact ⟨q0, q2, q3, q4⟩
    obtain ⟨a, b, c, d, l, e, f, p1, p2, p3⟩ := plan_same pol turn picks paths maps mm mapped written edge closed fin pay R (112 + pol) nm (fun m h0 h1 => ⟨(CR m h0 h1).2.1, (CR m h0 h1).2.2.2⟩) hI (fun m h0 h1 => (CR m h0 h1).2.2.1) k2 hp
    rw [if_neg (fun h => h rfl), p1, p2, some_bind]
    refine ⟨_, _, _, _, _, _, _, _, rfl, rfl, fun h => absurd rfl h, fun _ => ⟨hI, R, fun m h0 h1 => ⟨(CR m h0 h1).1, (CR m h0 h1).2.1, fun ne => pick_one pol turn _ m paths (R m) h0 h1 hI.len.2 (CR m h0 h1).2.2.1 ne, ?_⟩, p3⟩⟩
    unfold impl_Pick.f
    rw [hp, some_bind, hI.vp]
    have ht := hI.turn
    have j : (if turn < 0 then (some true) else (if turn ≥ (paths.length : Int) then (some true) else (if m < 0 then (some true) else (some (decide (m > 255)))))) = some false := by
      rw [if_neg (by omega), if_neg (by omega), if_neg (by omega), decide_eq_false (by omega)]
    simp only [Bool.not_true, Bool.false_eq_true, if_false, some_bind, j, (CR m h0 h1).2.2.2]
  · unfold impl_PlanSend.f
    rw [k2, some_bind, if_pos z, if_pos z]
    exact ⟨_, _, _, _, _, _, _, _, rfl, rfl, fun _ => ⟨rfl, rfl⟩, fun h => absurd h z⟩
end Go.AK
