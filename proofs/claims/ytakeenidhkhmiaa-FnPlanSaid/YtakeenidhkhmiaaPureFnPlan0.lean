/- Both sides' tests of what PlanSend is given. Conditions: bounds. -/
import Derived.Test.YtakeenidhkhmiaaUFnPlan3
import Derived.Test.YtakeenidhkhmiaaAk2
set_option linter.unusedSimpArgs false
set_option linter.unusedVariables false
namespace Go.AK
open Go
theorem nft : ¬ (false = true) := fun h => by cases h
abbrev V := S86
/-! ### bits -/
def bitAt (v : Int) (p : Int) : Bool := decide ((v / 2 ^ p.toNat) % 2 = 1)
theorem bit_loop (n : Nat) : ∀ (v p : Int) (i : Int), 0 ≤ v → v ≤ 255 → 0 ≤ i → i + n = p → p ≤ 8 → spec_l6Bit.l0 p v i = some (v / 2 ^ n) := by
  induction n with
  | zero =>
    intro v p i h0 h1 hi hp h8
    rw [spec_l6Bit.l0, if_neg (by omega)]; simp
  | succ n ih =>
    intro v p i h0 h1 hi hp h8
    have e : Int.tdiv v 2 = v / 2 := Int.tdiv_eq_ediv_of_nonneg h0
    rw [spec_l6Bit.l0, if_pos (by omega), e, wi64_in (n := v / 2) (by omega) (by omega), wi64_in (n := i + 1) (by omega) (by omega), ih (v / 2) p (i + 1) (by omega) (by omega) (by omega) (by omega) h8,
      show v / 2 / 2 ^ n = v / 2 ^ (n + 1) by rw [Int.ediv_ediv_of_nonneg (by omega), Int.pow_succ, Int.mul_comm]]
theorem bit_is (v p : Int) (h0 : 0 ≤ v) (h1 : v ≤ 255) (hp : 0 ≤ p) (h8 : p ≤ 8) : spec_l6Bit.f v p = some (bitAt v p) := by
  unfold spec_l6Bit.f bitAt
  rw [bit_loop p.toNat v p 0 h0 h1 (by omega) (by omega) h8, some_bind, Int.tmod_eq_emod_of_nonneg (Int.ediv_nonneg h0 (Int.le_of_lt (Int.pow_pos (by decide))))]
theorem and_nat (n m : Nat) (hn : n < 256) (hm : m < 256) : Go.bits .and .i64 (n : Int) (m : Int) = ((n &&& m : Nat) : Int) := by
  have hx : n &&& m ≤ n := Nat.and_le_left
  have h1 : (BitVec.ofInt 64 (n : Int)).toNat = n := by
    rw [BitVec.ofInt_natCast, BitVec.toNat_ofNat]; exact Nat.mod_eq_of_lt (by omega)
  have h2 : (BitVec.ofInt 64 (m : Int)).toNat = m := by
    rw [BitVec.ofInt_natCast, BitVec.toNat_ofNat]; exact Nat.mod_eq_of_lt (by omega)
  show IntKind.i64.wrap ((BitVec.ofInt 64 (n : Int) &&& BitVec.ofInt 64 (m : Int)).toNat : Int) = _
  rw [BitVec.toNat_and, h1, h2]
  simp only [IntKind.wrap, IntKind.bits, IntKind.signed]
  have : ((n &&& m : Nat) : Int) < 256 := by omega
  simp
  omega
theorem implBit (v p : Int) (h0 : 0 ≤ v) (h1 : v ≤ 255) (hp : 0 ≤ p) (h8 : p ≤ 8) : decide (Go.bits .and .i64 (v.fdiv (2 ^ (min p.toNat 64))) 1 = 1) = bitAt v p := by
  rw [show min p.toNat 64 = p.toNat by omega, Int.fdiv_eq_ediv_of_nonneg _ (Int.le_of_lt (Int.pow_pos (by decide)))]
  have hb : v / 2 ^ p.toNat ≤ v := Int.ediv_le_self _ h0
  obtain ⟨n, hn⟩ := Int.eq_ofNat_of_zero_le (show 0 ≤ v / 2 ^ p.toNat from Int.ediv_nonneg h0 (Int.le_of_lt (Int.pow_pos (by decide))))
  unfold bitAt
  rw [hn]
  have e := and_nat n 1 (by omega) (by omega)
  rw [Nat.and_one_is_mod] at e
  have e' : Go.bits .and .i64 (n : Int) 1 = ((n % 2 : Nat) : Int) := e
  rw [e', decide_eq_decide]; omega
/-! ### paths -/
abbrev okP (x : V) : Prop := (x.f0 = 0 ∨ x.f0 = 1) ∧ 0 ≤ x.f1 ∧ x.f1 ≤ 16 ∧ 0 ≤ x.f2 ∧ x.f2 ≤ 16
theorem path_cond (x : V) : (if x.f0 ≠ 0 then (if x.f0 ≠ 1 then (some true) else (if x.f1 < 0 then (some true) else (if x.f1 > 16 then (some true) else (if x.f2 < 0 then (some true) else (some (decide (x.f2 > 16))))))) else (if x.f1 < 0 then (some true) else (if x.f1 > 16 then (some true) else (if x.f2 < 0 then (some true) else (some (decide (x.f2 > 16))))))) = some (decide (¬ okP x)) := by
  unfold okP
  (repeat' split) <;> first | (congr 1; symm; rw [decide_eq_true_iff]; omega) | (congr 1; rw [decide_eq_decide]; omega)
theorem paths_loop (l : List V) (hl : l.length ≤ 8) (xs : List V) : ∀ i : Int, 0 ≤ i → l.drop i.toNat = xs →
    ∃ r : Lp Unit Bool, spec_l6PathsOK.l0 l i = some r ∧ impl_validPaths.l0 l (l.length : Int) i = some r ∧ ((r = .a () ∧ ∀ x ∈ xs, okP x) ∨ r = .b false) := by
  induction xs with
  | nil =>
    intro i h0 hd
    have := suf_nil h0 hd
    rw [spec_l6PathsOK.l0, if_neg this, impl_validPaths.l0, if_neg this]
    exact ⟨_, rfl, rfl, .inl ⟨rfl, fun x hx => by simp at hx⟩⟩
  | cons x t ih =>
    intro i h0 hd
    obtain ⟨q1, q2, q3⟩ := suf_cons h0 hd z86
    have hi : 0 ≤ i ∧ i < (l.length : Int) := ⟨h0, q1⟩
    rw [spec_l6PathsOK.l0, if_pos q1, if_pos hi, impl_validPaths.l0, if_pos q1, if_pos hi, q2, path_cond, some_bind, some_bind, wi64_in (n := i + 1) (by omega) (by omega)]
    by_cases c : okP x
    · rw [decide_eq_false (fun h => h c), if_neg nft, if_neg nft]
      obtain ⟨r, r1, r2, r3⟩ := ih (i + 1) (by omega) q3
      refine ⟨r, r1, r2, r3.imp (fun h => ⟨h.1, fun y hy => ?_⟩) id⟩
      rcases List.mem_cons.1 hy with rfl | hy
      · exact c
      · exact h.2 y hy
    · rw [decide_eq_true c, if_pos rfl, if_pos rfl]
      exact ⟨_, rfl, rfl, .inr rfl⟩
theorem paths_both (l : List V) : ∃ b : Bool, spec_l6PathsOK.f l = some b ∧ impl_validPaths.f l = some b ∧ (b = true → 1 ≤ l.length ∧ l.length ≤ 8 ∧ ∀ x ∈ l, okP x) := by
  unfold spec_l6PathsOK.f impl_validPaths.f
  have e : (if (l.length : Int) < 1 then (some true) else (some (decide ((l.length : Int) > 8)))) = some (decide (l.length < 1 ∨ 8 < l.length)) := by
    split <;> first | (congr 1; symm; rw [decide_eq_true_iff]; omega) | (congr 1; rw [decide_eq_decide]; omega)
  rw [e]
  simp only [some_bind]
  by_cases c : l.length < 1 ∨ 8 < l.length
  · rw [decide_eq_true c, if_pos rfl, if_pos rfl]; exact ⟨_, rfl, rfl, fun h => absurd h nft⟩
  · rw [decide_eq_false c, if_neg nft, if_neg nft]
    obtain ⟨r, r1, r2, r3⟩ := paths_loop l (by omega) l 0 (by omega) rfl
    rw [r1, r2]
    simp only [some_bind]
    rcases r3 with ⟨rfl, h⟩ | rfl
    · exact ⟨_, rfl, rfl, fun _ => ⟨by omega, by omega, h⟩⟩
    · exact ⟨_, rfl, rfl, fun h => absurd h nft⟩
/-! ### mappings -/
abbrev vA (x : S84) : Prop := x.f0 > 4611686018427387904 ∨ x.f3 < 1 ∨ x.f3 > 255 ∨ (x.f4 ≠ 0 ∧ x.f4 ≠ 1)
abbrev vD (x : S84) : Prop := x.f2 = 0 ∧ x.f1 ≥ 1 ∧ x.f1 ≤ 32
abbrev vF (n i : Int) (x : S84) : Prop := x.f2 = 1 ∧ x.f1 = 0 ∧ i = IntKind.i64.wrap (n - 1)
abbrev vO (l : List S84) (i : Int) (x : S84) : Prop := i > 0 ∧ x.f0 < IntKind.u64.wrap (((rd z84 l (i - 1)).f0) + (IntKind.u64.wrap ((rd z84 l (i - 1)).f1)))
theorem c_D (x : S84) : (if x.f2 = 0 then (if x.f1 ≥ 1 then (some (decide (x.f1 ≤ 32))) else (some false)) else (some false)) = some (decide (vD x)) := by
  unfold vD
  (repeat' split) <;> first | (congr 1; symm; rw [decide_eq_false_iff_not]; omega) | (congr 1; rw [decide_eq_decide]; omega)
theorem c_F (n i : Int) (x : S84) : (if x.f2 = 1 then (if x.f1 = 0 then (some (decide (i = IntKind.i64.wrap (n - 1)))) else (some false)) else (some false)) = some (decide (vF n i x)) := by
  unfold vF
  (repeat' split) <;> first | (congr 1; symm; rw [decide_eq_false_iff_not]; omega) | (congr 1; rw [decide_eq_decide]; omega)
theorem c_A (x : S84) : (if x.f0 > 4611686018427387904 then (some true) else (if x.f3 < 1 then (some true) else (if x.f3 > 255 then (some true) else (if x.f4 ≠ 0 then (some (decide (x.f4 ≠ 1))) else (some false))))) = some (decide (vA x)) := by
  unfold vA
  (repeat' split) <;> first | (congr 1; symm; rw [decide_eq_true_iff]; omega) | (congr 1; symm; rw [decide_eq_false_iff_not]; omega) | (congr 1; rw [decide_eq_decide]; omega)
theorem c_A2 (x : S84) (D F : Bool) : (if x.f0 > 4611686018427387904 then (some true) else (if (!D) = true then (if (!F) = true then (some true) else (if x.f3 < 1 then (some true) else (if x.f3 > 255 then (some true) else (if x.f4 ≠ 0 then (some (decide (x.f4 ≠ 1))) else (some false))))) else (if x.f3 < 1 then (some true) else (if x.f3 > 255 then (some true) else (if x.f4 ≠ 0 then (some (decide (x.f4 ≠ 1))) else (some false)))))) = some (decide (vA x) || (!D && !F)) := by
  have h := c_A x
  cases D <;> cases F <;> simp only [Bool.not_false, Bool.not_true, if_true, nft, if_false, Bool.and_true, Bool.true_and, Bool.and_false, Bool.false_and, Bool.or_false, Bool.or_true]
  · split <;> rfl
  · exact h
  · exact h
  · exact h
theorem c_O (l : List S84) (i : Int) (x : S84) (h0 : 0 ≤ i) (h1 : i < l.length) (hl : l.length ≤ 1000) : (if i > 0 then (if 0 ≤ IntKind.i64.wrap (i - 1) ∧ IntKind.i64.wrap (i - 1) < (l.length : Int) then (some (decide (x.f0 < IntKind.u64.wrap (((rd z84 l (IntKind.i64.wrap (i - 1))).f0) + (IntKind.u64.wrap ((rd z84 l (IntKind.i64.wrap (i - 1))).f1)))))) else none) else (some false)) = some (decide (vO l i x)) := by
  unfold vO
  by_cases p : i > 0
  · rw [if_pos p, wi64_in (n := i - 1) (by omega) (by omega), if_pos (by omega)]
    congr 1; rw [decide_eq_decide]; exact ⟨fun h => ⟨p, h⟩, fun h => h.2⟩
  · rw [if_neg p]; congr 1; symm; rw [decide_eq_false_iff_not]; exact fun h => p h.1
abbrev okM (x : S84) : Prop := 1 ≤ x.f3 ∧ x.f3 ≤ 255
abbrev okAt (l : List S84) (i : Int) (x : S84) : Prop := ¬ vA x ∧ (vD x ∨ vF l.length i x) ∧ ¬ vO l i x
theorem maps_loop (l : List S84) (hl : l.length ≤ 256) (xs : List S84) : ∀ i : Int, 0 ≤ i → l.drop i.toNat = xs →
    ∃ r : Lp Unit Bool, spec_l6MapsOK.l0 l i = some r ∧ impl_validMaps.l0 l (l.length : Int) i = some r ∧ ((r = .a () ∧ (∀ x ∈ xs, okM x) ∧ ∀ k : Int, i ≤ k → k < (l.length : Int) → okAt l k (rd z84 l k)) ∨ r = .b false) := by
  induction xs with
  | nil =>
    intro i h0 hd
    have := suf_nil h0 hd
    rw [spec_l6MapsOK.l0, if_neg this, impl_validMaps.l0, if_neg this]
    exact ⟨_, rfl, rfl, .inl ⟨rfl, fun x hx => by simp at hx, fun k a b => absurd b (by omega)⟩⟩
  | cons x t ih =>
    intro i h0 hd
    obtain ⟨q1, q2, q3⟩ := suf_cons h0 hd z84
    have hO := c_O l i x h0 q1 (by omega)
    have hi : 0 ≤ i ∧ i < (l.length : Int) := ⟨h0, q1⟩
    rw [spec_l6MapsOK.l0, if_pos q1, if_pos hi, impl_validMaps.l0, if_pos q1, if_pos hi, q2, c_A, c_D, c_F, hO]
    simp only [some_bind]
    rw [c_A2, wi64_in (n := i + 1) (by omega) (by omega)]
    simp only [some_bind]
    obtain ⟨r, r1, r2, r3⟩ := ih (i + 1) (by omega) q3
    rw [r1, r2]
    by_cases a : vA x
    · rw [decide_eq_true a, if_pos rfl, Bool.true_or, if_pos rfl]; exact ⟨_, rfl, rfl, .inr rfl⟩
    · have om : okM x := by unfold vA at a; exact ⟨by omega, by omega⟩
      have fin : okAt l i x → ∃ r', (some r : Option (Lp Unit Bool)) = some r' ∧ (some r : Option (Lp Unit Bool)) = some r' ∧ ((r' = .a () ∧ (∀ y ∈ x :: t, okM y) ∧ ∀ k : Int, i ≤ k → k < (l.length : Int) → okAt l k (rd z84 l k)) ∨ r' = .b false) := by
        intro oa
        refine ⟨r, rfl, rfl, r3.imp (fun h => ⟨h.1, fun y hy => ?_, fun k a b => ?_⟩) id⟩
        · rcases List.mem_cons.1 hy with rfl | hy
          · exact om
          · exact h.2.1 y hy
        · by_cases e : k = i
          · subst e; rw [q2]; exact oa
          · exact h.2.2 k (by omega) b
      rw [decide_eq_false a, if_neg nft, Bool.false_or]
      cases hD : decide (vD x) <;> cases hF : decide (vF l.length i x) <;> cases hOo : decide (vO l i x) <;> simp only [Bool.not_false, Bool.not_true, if_true, nft, if_false, Bool.and_true, Bool.true_and, Bool.and_false, Bool.false_and, some_bind] <;>
        first | exact ⟨_, rfl, rfl, .inr rfl⟩ | exact fin ⟨a, .inl (of_decide_eq_true hD), of_decide_eq_false hOo⟩ | exact fin ⟨a, .inr (of_decide_eq_true hF), of_decide_eq_false hOo⟩
theorem maps_both (l : List S84) : ∃ b : Bool, spec_l6MapsOK.f l = some b ∧ impl_validMaps.f l = some b ∧ (b = true → l.length ≤ 256 ∧ (∀ x ∈ l, okM x) ∧ ∀ k : Int, 0 ≤ k → k < (l.length : Int) → okAt l k (rd z84 l k)) := by
  unfold spec_l6MapsOK.f impl_validMaps.f
  by_cases c : (l.length : Int) > 256
  · rw [if_pos c, if_pos c]; exact ⟨_, rfl, rfl, fun h => absurd h nft⟩
  · rw [if_neg c, if_neg c]
    obtain ⟨r, r1, r2, r3⟩ := maps_loop l (by omega) l 0 (by omega) rfl
    rw [r1, r2]
    simp only [some_bind]
    rcases r3 with ⟨rfl, h⟩ | rfl
    · exact ⟨_, rfl, rfl, fun _ => ⟨by omega, h⟩⟩
    · exact ⟨_, rfl, rfl, fun h => absurd h nft⟩
/-! ### the input's code -/
structure InOk (pol turn : Int) (picks : List Int) (paths : List V) (maps : List S84) (mm mapped written edge closed fin pay : Int) : Prop where
  pol : 1 ≤ pol ∧ pol ≤ 4
  len : 1 ≤ paths.length ∧ paths.length ≤ 8
  ok : ∀ x ∈ paths, okP x
  turn : 0 ≤ turn ∧ turn < paths.length
  mok : ∀ x ∈ maps, okM x
  mlen : maps.length ≤ 256
  pay : 1 ≤ pay ∧ pay ≤ 32
  order : mapped ≤ written
  cap : mapped ≤ 4611686018427387904 ∧ written ≤ 4611686018427387904 ∧ edge ≤ 4611686018427387904
  mat : ∀ k : Int, 0 ≤ k → k < (maps.length : Int) → okAt maps k (rd z84 maps k)
  vp : impl_validPaths.f paths = some true
  vm : impl_validMaps.f maps = some true
theorem code_both (pol turn : Int) (picks : List Int) (paths : List V) (maps : List S84) (mm mapped written edge closed fin pay : Int) :
    ∃ c, spec_l6InputCode.f pol turn picks paths maps mm mapped written edge closed fin pay = some c ∧ impl_checkPlan.f pol turn picks paths maps mm mapped written edge closed fin pay = some c ∧ (c = 0 → InOk pol turn picks paths maps mm mapped written edge closed fin pay) := by
  unfold spec_l6InputCode.f impl_checkPlan.f
  have ep : (if pol < 1 then (some true) else (some (decide (pol > 4)))) = some (decide (¬ (1 ≤ pol ∧ pol ≤ 4))) := by
    split <;> first | (congr 1; symm; rw [decide_eq_true_iff]; omega) | (congr 1; rw [decide_eq_decide]; omega)
  have ei : ∃ nm tg, impl_policyOf.f pol = some (nm, tg, decide (1 ≤ pol ∧ pol ≤ 4)) := by
    unfold impl_policyOf.f
    by_cases h1 : pol = 1
    · subst h1; exact ⟨_, _, rfl⟩
    by_cases h2 : pol = 2
    · subst h2; exact ⟨_, _, rfl⟩
    by_cases h3 : pol = 3
    · subst h3; exact ⟨_, _, rfl⟩
    by_cases h4 : pol = 4
    · subst h4; exact ⟨_, _, rfl⟩
    rw [if_neg h1, if_neg h2, if_neg h3, if_neg h4, decide_eq_false (by omega)]
    exact ⟨_, _, rfl⟩
  obtain ⟨nm, tg, ei⟩ := ei
  rw [ep, ei, some_bind, some_bind]
  dsimp only
  by_cases k1 : 1 ≤ pol ∧ pol ≤ 4
  · simp only [k1, and_self, not_true_eq_false, decide_true, decide_false, Bool.not_true, Bool.not_false, nft, if_false, if_true]
    obtain ⟨b, b1, b2, b3⟩ := paths_both paths
    rw [b1, b2]
    simp only [some_bind]
    cases b with
    | false => simp only [Bool.not_true, Bool.not_false, nft, if_false, if_true]; exact ⟨_, rfl, rfl, fun h => absurd h (by decide)⟩
    | true =>
      simp only [Bool.not_true, Bool.not_false, nft, if_false, if_true]
      obtain ⟨p1, p2, p3⟩ := b3 rfl
      have es1 : (if turn < 0 then (some true) else (if turn ≥ (paths.length : Int) then (some true) else (if mm < 1 then (some true) else (if mm > 256 then (some true) else (if pay < 1 then (some true) else (if pay > 32 then (some true) else (some (decide ((picks.length : Int) > 1000))))))))) =
          some (decide ((turn < 0 ∨ turn ≥ (paths.length : Int) ∨ mm < 1 ∨ mm > 256 ∨ pay < 1 ∨ pay > 32) ∨ (picks.length : Int) > 1000)) := by
        (repeat' split) <;> first | (congr 1; symm; rw [decide_eq_true_iff]; omega) | (congr 1; rw [decide_eq_decide]; omega)
      have ei1 : (if turn < 0 then (some true) else (if turn ≥ (paths.length : Int) then (some true) else (if mm < 1 then (some true) else (if mm > 256 then (some true) else (if pay < 1 then (some true) else (some (decide (pay > 32)))))))) =
          some (decide (turn < 0 ∨ turn ≥ (paths.length : Int) ∨ mm < 1 ∨ mm > 256 ∨ pay < 1 ∨ pay > 32)) := by
        (repeat' split) <;> first | (congr 1; symm; rw [decide_eq_true_iff]; omega) | (congr 1; rw [decide_eq_decide]; omega)
      have mk : ∀ x, spec_l6Mark.f x = some (decide (x = 0 ∨ x = 1)) := fun x => by
        unfold spec_l6Mark.f; split <;> first | (congr 1; symm; rw [decide_eq_true_iff]; omega) | (congr 1; rw [decide_eq_decide]; omega)
      have es2 : (if mapped > 4611686018427387904 then (some true) else (if written > 4611686018427387904 then (some true) else (if edge > 4611686018427387904 then (some true) else (if mapped > written then (some true) else (spec_l6Mark.f closed >>= fun t61 => (if (!t61) = true then (some true) else (spec_l6Mark.f fin >>= fun t67 => (some (!t67))))))))) =
          some (decide ((mapped > 4611686018427387904 ∨ written > 4611686018427387904 ∨ edge > 4611686018427387904 ∨ mapped > written) ∨ (closed ≠ 0 ∧ closed ≠ 1) ∨ (fin ≠ 0 ∧ fin ≠ 1))) := by
        rw [mk, mk]; simp only [some_bind]
        by_cases q : closed = 0 ∨ closed = 1
        · simp only [q, decide_true, Bool.not_true, Bool.not_false, nft, if_false, if_true]
          (repeat' split) <;> first | (congr 1; symm; rw [decide_eq_true_iff]; omega) | (congr 1; symm; rw [decide_eq_true_iff]; left; omega) | (exact absurd (by assumption) nft) | (by_cases q2 : fin = 0 ∨ fin = 1 <;> simp only [q2, decide_true, decide_false, Bool.not_true, Bool.not_false] <;> congr 1 <;> symm <;> first | (rw [decide_eq_true_iff]; omega) | (rw [decide_eq_false_iff_not]; omega))
        · simp only [q, decide_false, Bool.not_true, Bool.not_false, nft, if_false, if_true]
          (repeat' split) <;> (congr 1; symm; rw [decide_eq_true_iff]; omega)
      have ei2 : (if (picks.length : Int) > 1000 then (some true) else (if mapped > 4611686018427387904 then (some true) else (if written > 4611686018427387904 then (some true) else (if edge > 4611686018427387904 then (some true) else (some (decide (mapped > written))))))) =
          some (decide ((picks.length : Int) > 1000 ∨ (mapped > 4611686018427387904 ∨ written > 4611686018427387904 ∨ edge > 4611686018427387904 ∨ mapped > written))) := by
        (repeat' split) <;> first | (congr 1; symm; rw [decide_eq_true_iff]; omega) | (congr 1; rw [decide_eq_decide]; omega)
      have ei3 : (if closed ≠ 0 then (if closed ≠ 1 then (some true) else (if fin ≠ 0 then (some (decide (fin ≠ 1))) else (some false))) else (if fin ≠ 0 then (some (decide (fin ≠ 1))) else (some false))) = some (decide ((closed ≠ 0 ∧ closed ≠ 1) ∨ (fin ≠ 0 ∧ fin ≠ 1))) := by
        (repeat' split) <;> first | (congr 1; symm; rw [decide_eq_true_iff]; omega) | (congr 1; symm; rw [decide_eq_false_iff_not]; omega) | (congr 1; rw [decide_eq_decide]; omega)
      obtain ⟨m, m1, m2, m3⟩ := maps_both maps
      rw [es1, es2, ei1, ei2, ei3, m1, m2]
      simp only [some_bind]
      by_cases A : turn < 0 ∨ turn ≥ (paths.length : Int) ∨ mm < 1 ∨ mm > 256 ∨ pay < 1 ∨ pay > 32
      · simp only [A, true_or, decide_true, if_true]; exact ⟨_, rfl, rfl, fun h => absurd h (by decide)⟩
      by_cases B : (picks.length : Int) > 1000
      · simp only [A, B, true_or, or_true, false_or, decide_true, decide_false, nft, if_false, if_true]; exact ⟨_, rfl, rfl, fun h => absurd h (by decide)⟩
      by_cases C : mapped > 4611686018427387904 ∨ written > 4611686018427387904 ∨ edge > 4611686018427387904 ∨ mapped > written
      · simp only [A, B, C, true_or, or_true, false_or, decide_true, decide_false, nft, if_false, if_true]; exact ⟨_, rfl, rfl, fun h => absurd h (by decide)⟩
      by_cases D : (closed ≠ 0 ∧ closed ≠ 1) ∨ (fin ≠ 0 ∧ fin ≠ 1)
      · simp only [A, B, C, D, true_or, or_true, false_or, or_self, decide_true, decide_false, nft, if_false, if_true]; exact ⟨_, rfl, rfl, fun h => absurd h (by decide)⟩
      simp only [A, B, C, D, false_or, or_self, decide_false, nft, if_false]
      cases m with
      | false => simp only [some_bind, Bool.not_true, Bool.not_false, nft, if_false, if_true]; exact ⟨_, rfl, rfl, fun h => absurd h (by decide)⟩
      | true =>
        simp only [some_bind, Bool.not_true, Bool.not_false, nft, if_false, if_true]
        obtain ⟨n1, n2, n3⟩ := m3 rfl
        by_cases E : (maps.length : Int) > mm
        · simp only [E, decide_true, if_true]; exact ⟨_, rfl, rfl, fun h => absurd h (by decide)⟩
        · simp only [E, decide_false, nft, if_false]
          exact ⟨_, rfl, rfl, fun _ => ⟨k1, ⟨p1, p2⟩, p3, by omega, n2, n1, by omega, by omega, by omega, n3, b2, m2⟩⟩
  · simp only [k1, not_false_eq_true, decide_true, decide_false, Bool.not_true, Bool.not_false, nft, if_false, if_true]; exact ⟨_, rfl, rfl, fun h => absurd h (by decide)⟩
end Go.AK
