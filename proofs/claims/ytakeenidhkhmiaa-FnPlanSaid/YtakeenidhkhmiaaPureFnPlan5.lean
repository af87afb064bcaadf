/- Mappings: what an acknowledgement leaves, what is queued, and the law's own loops over them. Conditions: bounds. -/
import Derived.Test.YtakeenidhkhmiaaPureFnPlan4
set_option linter.unusedSimpArgs false
set_option linter.unusedVariables false
namespace Go.AK
open Go
/-- A mapping's end, as the code counts it. -/
def me (x : S84) : Int := IntKind.u64.wrap (IntKind.u64.wrap (x.f0 + IntKind.u64.wrap x.f1) + IntKind.u64.wrap x.f2)
theorem me_is {l : List S84} {i : Int} {x : S84} (h : okAt l i x) (h0 : 0 ≤ x.f0) : me x = x.f0 + x.f1 + x.f2 ∧ 0 ≤ x.f1 ∧ x.f1 ≤ 32 ∧ 0 ≤ x.f2 ∧ x.f2 ≤ 1 := by
  obtain ⟨h1, h2, h3⟩ := h
  unfold vA at h1
  have : 0 ≤ x.f1 ∧ x.f1 ≤ 32 ∧ 0 ≤ x.f2 ∧ x.f2 ≤ 1 := by
    rcases h2 with h2 | h2
    · unfold vD at h2; omega
    · unfold vF at h2; omega
  refine ⟨?_, this⟩
  unfold me
  rw [wu64_in (n := x.f1) (by omega) (by omega), wu64_in (n := x.f2) (by omega) (by omega), wu64_in (n := x.f0 + x.f1) (by omega) (by omega), wu64_in (by omega) (by omega)]
section
variable {l : List S84} (ok : ∀ k : Int, 0 ≤ k → k < (l.length : Int) → okAt l k (rd z84 l k)) (pos : posM l) (hl : l.length ≤ 256)
include ok pos hl
theorem me_step (k : Int) (h0 : 0 ≤ k) (h1 : k + 1 < (l.length : Int)) : me (rd z84 l k) ≤ me (rd z84 l (k + 1)) := by
  have o1 := ok k h0 (by omega)
  have o2 := ok (k + 1) (by omega) h1
  have p1 := pos _ (rd_mem (z := z84) h0 (show k < (l.length : Int) by omega))
  have p2 := pos _ (rd_mem (z := z84) (show 0 ≤ k + 1 by omega) h1)
  have m1 := me_is o1 p1
  have m2 := me_is o2 p2
  have d : vD (rd z84 l k) := by
    rcases o1.2.1 with d | d
    · exact d
    · unfold vF at d
      have := d.2.2
      rw [wi64_in (n := (l.length : Int) - 1) (by omega) (by omega)] at this
      omega
  have q := o2.2.2
  unfold vO at q
  rw [show k + 1 - 1 = k by omega, wu64_in (n := (rd z84 l k).f1) (by omega) (by omega)] at q
  have c1 : (rd z84 l k).f0 ≤ 4611686018427387904 := by have := o1.1; unfold vA at this; omega
  rw [wu64_in (n := (rd z84 l k).f0 + (rd z84 l k).f1) (by omega) (by omega)] at q
  unfold vD at d
  omega
theorem me_mono (n : Nat) : ∀ k : Int, 0 ≤ k → k + n < (l.length : Int) → me (rd z84 l k) ≤ me (rd z84 l (k + n)) := by
  induction n with
  | zero => intro k h0 h1; simp
  | succ n ih =>
    intro k h0 h1
    have a := ih k h0 (by omega)
    have b := me_step ok pos hl (k + n) (by omega) (by omega)
    rw [show k + ((n + 1 : Nat) : Int) = k + n + 1 by omega]
    omega
theorem place_is (a : Int) (n : Nat) : ∀ lo hi : Int, 0 ≤ lo → lo ≤ hi → hi ≤ (l.length : Int) → hi - lo ≤ n → (∀ k : Int, 0 ≤ k → k < lo → me (rd z84 l k) < a) → (∀ k : Int, hi ≤ k → k < (l.length : Int) → a ≤ me (rd z84 l k)) →
    ∃ r : Int, impl_place_impl_Mapping_uint64_v2f110.l0 l a lo hi = some r ∧ 0 ≤ r ∧ r ≤ (l.length : Int) ∧ (∀ k : Int, 0 ≤ k → k < r → me (rd z84 l k) < a) ∧ (∀ k : Int, r ≤ k → k < (l.length : Int) → a ≤ me (rd z84 l k)) := by
  induction n with
  | zero =>
    intro lo hi h0 h1 h2 h3 h4 h5
    rw [impl_place_impl_Mapping_uint64_v2f110.l0, if_neg (by omega)]
    exact ⟨lo, rfl, h0, by omega, h4, fun k a b => h5 k (by omega) b⟩
  | succ n ih =>
    intro lo hi h0 h1 h2 h3 h4 h5
    rw [impl_place_impl_Mapping_uint64_v2f110.l0]
    by_cases c : lo < hi
    · have hm : IntKind.i64.wrap ((IntKind.i64.wrap (lo + hi)).tdiv 2) = (lo + hi) / 2 := by
        rw [wi64_in (n := lo + hi) (by omega) (by omega), Int.tdiv_eq_ediv_of_nonneg (by omega), wi64_in (by omega) (by omega)]
      have hb : 0 ≤ (lo + hi) / 2 ∧ (lo + hi) / 2 < (l.length : Int) := by omega
      rw [if_pos c, hm, if_pos hb]
      unfold impl_mapEnd.f
      rw [some_bind]
      show ∃ r, (if me (rd z84 l ((lo + hi) / 2)) < a then _ else _) = some r ∧ _
      by_cases d : me (rd z84 l ((lo + hi) / 2)) < a
      · rw [if_pos d, wi64_in (n := (lo + hi) / 2 + 1) (by omega) (by omega)]
        refine ih _ _ (by omega) (by omega) h2 (by omega) (fun k k0 k1 => ?_) h5
        have := me_mono ok pos hl ((lo + hi) / 2 - k).toNat k k0 (by omega)
        rw [show k + (((lo + hi) / 2 - k).toNat : Int) = (lo + hi) / 2 by omega] at this
        omega
      · rw [if_neg d]
        refine ih _ _ h0 (by omega) (by omega) (by omega) h4 (fun k k0 k1 => ?_)
        have := me_mono ok pos hl (k - (lo + hi) / 2).toNat ((lo + hi) / 2) (by omega) (by omega)
        rw [show (lo + hi) / 2 + ((k - (lo + hi) / 2).toNat : Int) = k by omega] at this
        omega
    · rw [if_neg c]
      exact ⟨lo, rfl, h0, by omega, h4, fun k a b => h5 k (by omega) b⟩
theorem ack_is (vm : impl_validMaps.f l = some true) (a : Int) (h0 : 0 ≤ a) (h1 : a ≤ 4611686018427387904) :
    ∃ r : Nat, impl_AckMaps.f l a = some (l.drop r, 0) ∧ r ≤ l.length ∧ (∀ k : Int, 0 ≤ k → k < r → ¬ me (rd z84 l k) > a) ∧ (∀ k : Int, r ≤ k → k < (l.length : Int) → me (rd z84 l k) > a) := by
  obtain ⟨r, r1, r2, r3, r4, r5⟩ := place_is ok pos hl (a + 1) l.length 0 (l.length : Int) (by omega) (by omega) (by omega) (by omega) (fun k a b => absurd b (by omega)) (fun k a b => absurd b (by omega))
  refine ⟨r.toNat, ?_, by omega, fun k a b => ?_, fun k a b => ?_⟩
  · unfold impl_AckMaps.f impl_ackedMaps.f impl_place_impl_Mapping_uint64_v2f110.f
    rw [vm, some_bind, if_neg (by decide), if_neg (by omega), wu64_in (n := a + 1) (by omega) (by omega), r1]
    simp only [some_bind]
    rw [if_pos (by omega), if_pos (by omega)]
  · have := r4 k a (by omega); omega
  · have := r5 k (by omega) b; omega
end
def upd (alive : Int) (x : S84) : S84 := if bits .and .i64 x.f3 alive = 0 then ⟨x.f0, x.f1, x.f2, x.f3, 1⟩ else x
theorem queue_loop (l0 : List S84) (alive n : Int) (hn : n ≤ 1000) (xs : List S84) : ∀ (i : Int) (pre : List S84), (pre.length : Int) = i → i + xs.length = n → impl_QueueMaps.l0 l0 alive n i (pre ++ xs) = some (pre ++ xs.map (upd alive)) := by
  induction xs with
  | nil => intro i pre h0 h1; rw [impl_QueueMaps.l0, if_neg (by simp only [List.length_nil] at h1; omega)]; rfl
  | cons x t ih =>
    intro i pre h0 h1
    simp only [List.length_cons] at h1
    have hr : rd z84 (pre ++ x :: t) i = x := rd_app h0
    have hb : 0 ≤ i ∧ i < ((pre ++ x :: t).length : Int) := by simp only [List.length_append, List.length_cons]; omega
    have hs : ∀ y : S84, (pre ++ x :: t).set i.toNat y = (pre ++ [y]) ++ t := fun y => by
      rw [show i.toNat = pre.length by omega, List.set_append_right _ _ (Nat.le_refl _), Nat.sub_self, List.set_cons_zero, List.append_assoc]; rfl
    have hp : ∀ y : S84, (((pre ++ [y]).length : Nat) : Int) = i + 1 := fun y => by simp only [List.length_append, List.length_cons, List.length_nil]; omega
    rw [impl_QueueMaps.l0, if_pos (by omega), if_pos hb, hr, wi64_in (n := i + 1) (by omega) (by omega)]
    by_cases c : bits .and .i64 x.f3 alive = 0
    · rw [if_pos c, some_bind, hs, ih (i + 1) _ (hp _) (by omega)]
      simp only [List.map_cons, upd, if_pos c, List.append_assoc]; rfl
    · rw [if_neg c, some_bind, show pre ++ x :: t = (pre ++ [x]) ++ t by simp, ih (i + 1) _ (hp _) (by omega)]
      simp only [List.map_cons, upd, if_neg c, List.append_assoc]; rfl
theorem queue_is {l : List S84} (hl : l.length ≤ 256) (vm : impl_validMaps.f l = some true) (alive : Int) (h0 : 0 ≤ alive) (h1 : alive ≤ 255) : impl_QueueMaps.f l alive = some (l.map (upd alive), 0) := by
  unfold impl_QueueMaps.f
  have e := queue_loop l alive (0 + l.length : Int) (by omega) l 0 [] rfl (by omega)
  rw [List.nil_append, List.nil_append] at e
  rw [vm, some_bind, if_neg (by decide), if_neg (by omega), some_bind, decide_eq_false (by omega), if_neg (by decide), if_pos (by omega), e, some_bind]
theorem rd_drop {α : Type} {z : α} {l : List α} {r : Nat} {i : Int} (h0 : (r : Int) ≤ i) (h1 : i < l.length) : rd z (l.drop r) (i - r) = rd z l i := by
  unfold rd
  rw [List.getD_eq_getElem?_getD, List.getD_eq_getElem?_getD, List.getElem?_drop, show r + (i - r).toNat = i.toNat by omega]
/-- The law's loop over the mappings. -/
theorem law_l1 (l1 : List Int) (alive a u4 u5 : Int) (u6 : List Int) (u7 : List S86) (u9 u10 u11 u12 u13 u14 u15 : Int) (maps : List S84) (r : Nat) (hm : maps.length ≤ 256) (hr : r ≤ maps.length)
    (lo : ∀ k : Int, 0 ≤ k → k < r → ¬ me (rd z84 maps k) > a) (hi : ∀ k : Int, r ≤ k → k < (maps.length : Int) → me (rd z84 maps k) > a) (xs : List S84) : ∀ i : Int, 0 ≤ i → maps.drop i.toNat = xs → i ≤ (maps.length : Int) →
    laws_FnPlan.l1 l1 alive a u4 u5 u6 u7 maps u9 u10 u11 u12 u13 u14 u15 (maps.drop r) (maps.map (upd alive)) (if i ≤ r then 0 else i - r) i = some (.a ((maps.length : Int) - r)) := by
  induction xs with
  | nil =>
    intro i i0 hd hl
    have c := suf_nil i0 hd
    rw [laws_FnPlan.l1, if_neg c]
    congr 2
    split <;> omega
  | cons x t ih =>
    intro i i0 hd hl
    obtain ⟨q1, q2, q3⟩ := suf_cons i0 hd z84
    have nx := ih (i + 1) (by omega) q3 (by omega)
    have hb : 0 ≤ i ∧ i < (maps.length : Int) := ⟨i0, q1⟩
    have hb2 : 0 ≤ i ∧ i < ((maps.map (upd alive)).length : Int) := by rw [List.length_map]; exact hb
    have hq : rd z84 (maps.map (upd alive)) i = upd alive x := by rw [rd_map (z := z84) i0 q1, q2]
    have e4 : (if bits .and .i64 x.f3 alive = 0 then (some 1) else (some x.f4)) = some (upd alive x).f4 := by unfold upd; split <;> rfl
    have u0 : (upd alive x).f0 = x.f0 := by unfold upd; split <;> rfl
    have u1 : (upd alive x).f1 = x.f1 := by unfold upd; split <;> rfl
    have u2 : (upd alive x).f2 = x.f2 := by unfold upd; split <;> rfl
    have u3 : (upd alive x).f3 = x.f3 := by unfold upd; split <;> rfl
    rw [laws_FnPlan.l1, if_pos q1, if_pos hb, q2, hq, e4, wi64_in (n := i + 1) (by omega) (by omega)]
    simp only [some_bind, if_pos hb2, u0, u1, u2, u3, decide_true, Bool.and_self, Bool.not_true, Bool.false_eq_true, if_false]
    change (if me x > a then _ else _) = _
    by_cases c : i < r
    · have := lo i i0 c
      rw [q2] at this
      rw [if_neg this, if_pos (show i ≤ (r : Int) by omega)]
      rw [if_pos (show i + 1 ≤ (r : Int) by omega)] at nx
      exact nx
    · have g := hi i (by omega) q1
      rw [q2] at g
      have n1 : (if i ≤ (r : Int) then 0 else i - r) = i - r := by split <;> omega
      rw [if_neg (show ¬ i + 1 ≤ (r : Int) by omega)] at nx
      have hd : rd z84 (maps.drop r) (i - r) = x := by rw [rd_drop (by omega) q1, q2]
      rw [if_pos g, n1, if_neg (by rw [List.length_drop]; omega), if_pos (by rw [List.length_drop]; omega), hd]
      simp only [decide_true, Bool.and_self, Bool.not_true, some_bind, Bool.false_eq_true, if_false, u0, u1, u2, u3]
      rw [wi64_in (n := i - r + 1) (by omega) (by omega), show i - (r : Int) + 1 = i + 1 - r by omega]
      exact nx
theorem el_mem (m : Int) (l : List V) (xs : List V) : ∀ (i p : Int), 0 ≤ i → l.drop i.toNat = xs → p ∈ el m i xs → 0 ≤ p ∧ p < (l.length : Int) ∧ elig m p (rd z86 l p) = true := by
  induction xs with
  | nil => intro i p _ _ h; cases h
  | cons x t ih =>
    intro i p i0 hd h
    obtain ⟨q1, q2, q3⟩ := suf_cons i0 hd z86
    simp only [el] at h
    split at h
    · rename_i c
      rcases List.mem_cons.1 h with rfl | h
      · exact ⟨i0, q1, by rw [q2]; exact c⟩
      · exact ih (i + 1) p (by omega) q3 h
    · exact ih (i + 1) p (by omega) q3 h
theorem bar_bit (m q : Int) (h0 : 0 ≤ m) (h1 : m ≤ 255) (q0 : 0 ≤ q) (q8 : q < 8) (h : bitAt m q = false) : bits .and .i64 m (IntKind.i64.wrap (1 * 2 ^ (min (IntKind.u64.wrap q).toNat 64))) = 0 := by
  rw [wu64_in (n := q) (by omega) (by omega), Nat.min_eq_left (by omega), Int.one_mul]
  obtain ⟨k, rfl⟩ : ∃ k : Nat, q = k := ⟨q.toNat, by omega⟩
  obtain ⟨n, rfl⟩ : ∃ n : Nat, m = n := ⟨m.toNat, by omega⟩
  have hk : k < 8 := by omega
  have p2 : (2 : Nat) ^ k < 256 := by
    have : (2 : Nat) ^ k ≤ 2 ^ 7 := Nat.pow_le_pow_right (by decide) (by omega)
    omega
  have e : ((2 : Int) ^ (k : Int).toNat) = ((2 ^ k : Nat) : Int) := by simp
  have p3 : ((2 ^ k : Nat) : Int) ≤ 9223372036854775807 := Int.le_trans (Int.ofNat_le.2 (Nat.le_of_lt p2)) (by decide)
  rw [e, wi64_in (n := ((2 ^ k : Nat) : Int)) (Int.le_trans (by decide) (Int.natCast_nonneg _)) p3, and_nat n (2 ^ k) (by omega) p2]
  unfold bitAt at h
  have h2 := of_decide_eq_false h
  have g : ¬ n / 2 ^ k % 2 = 1 := by
    intro g
    apply h2
    rw [e, ← Int.natCast_ediv]
    omega
  have z : n &&& 2 ^ k = 0 := by
    apply Nat.eq_of_testBit_eq
    intro j
    rw [Nat.testBit_and, Nat.testBit_two_pow, Nat.zero_testBit]
    by_cases c : k = j
    · subst c; rw [Nat.testBit_eq_decide_div_mod_eq, decide_eq_false g]; rfl
    · rw [decide_eq_false c, Bool.and_false]
  rw [z]; rfl
/-- The law's loop over the paths. -/
theorem law_l0 (l0 : List Int) (m u2 u3 : Int) (u4 : List Int) (paths : List V) (u6 : List S84) (u7 u8 u9 u10 u11 u12 u13 u14 u15 u16 u17 u19 u20 : Int) (l : List Int) (h0 : 0 ≤ m) (h1 : m ≤ 255) (h8 : paths.length ≤ 8) (hl : l.length ≤ 8)
    (he : ∀ p ∈ l, p ∈ el m 0 paths) (hp : ∀ i : Int, 0 < i → i < (l.length : Int) → rd 0 l (i - 1) < rd 0 l i) (xs : List Int) : ∀ i : Int, 0 ≤ i → l.drop i.toNat = xs →
    laws_FnPlan.l0 l0 m u2 u3 u4 paths u6 u7 u8 u9 u10 u11 u12 u13 u14 u15 u16 u17 l u19 u20 i = some (.a ()) := by
  induction xs with
  | nil => intro i i0 hd; rw [laws_FnPlan.l0, if_neg (suf_nil i0 hd)]
  | cons q t ih =>
    intro i i0 hd
    obtain ⟨q1, q2, q3⟩ := suf_cons i0 hd 0
    have hb : 0 ≤ i ∧ i < (l.length : Int) := ⟨i0, q1⟩
    obtain ⟨p0, p1, p2⟩ := el_mem m paths paths 0 q (by omega) rfl (he q (by rw [← q2]; exact rd_mem i0 q1))
    unfold elig at p2
    simp only [Bool.and_eq_true, decide_eq_true_eq, Bool.not_eq_true'] at p2
    have hbit := bar_bit m q h0 h1 p0 (by omega) p2.2.2
    have j : (if i > 0 then (if 0 ≤ IntKind.i64.wrap (i - 1) ∧ IntKind.i64.wrap (i - 1) < (l.length : Int) then (some (decide ((rd 0 l (IntKind.i64.wrap (i - 1))) ≥ q))) else none) else (some false)) = some false := by
      by_cases c : i > 0
      · have := hp i c q1
        rw [q2] at this
        rw [if_pos c, wi64_in (n := i - 1) (by omega) (by omega), if_pos (by omega), decide_eq_false (by omega)]
      · rw [if_neg c]
    rw [laws_FnPlan.l0, if_pos q1, if_pos hb, q2, if_neg (by omega), if_neg (by omega), if_pos ⟨p0, p1⟩, if_neg (fun h => h p2.1), if_neg (by omega), wi64_in (n := i + 1) (by omega) (by omega)]
    have hu : ¬ IntKind.u64.wrap q < 0 := by have := (wu64_rng q).1; omega
    rw [if_pos hu, hbit, if_neg (fun h => h rfl), j, some_bind, if_neg nft]
    exact ih (i + 1) (by omega) q3
theorem nums_same (l : List Int) (hl : l.length ≤ 1000) (xs : List Int) : ∀ i : Int, 0 ≤ i → l.drop i.toNat = xs → laws_lNums.l0 l l i = some (.a ()) := by
  induction xs with
  | nil => intro i i0 hd; rw [laws_lNums.l0, if_neg (suf_nil i0 hd)]
  | cons q t ih =>
    intro i i0 hd
    obtain ⟨q1, q2, q3⟩ := suf_cons i0 hd 0
    rw [laws_lNums.l0, if_pos q1, if_pos ⟨i0, q1⟩, if_pos ⟨i0, q1⟩, if_neg (fun h => h rfl), wi64_in (n := i + 1) (by omega) (by omega)]
    exact ih (i + 1) (by omega) q3
theorem nums_is (l : List Int) (hl : l.length ≤ 1000) : laws_lNums.f l l = some true := by
  unfold laws_lNums.f
  rw [if_neg (fun h => h rfl), nums_same l hl l 0 (by omega) rfl]; rfl
end Go.AK
