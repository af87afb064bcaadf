/- What a step of the reference's buffer does, and a run of them, told by what lies where. Conditions: bounds. -/
import Derived.Test.YtlladicdmmdboaaPureFnReorder2
set_option linter.unusedSimpArgs false
set_option linter.unusedVariables false
namespace Go.AK
open Go
/-- How many places below n hold something. -/
def cnt (g : Int → Int) : Nat → Int
  | 0 => 0
  | n + 1 => cnt g n + if 0 ≤ g n then 1 else 0
theorem cnt_congr {g g' : Int → Int} (n : Nat) (h : ∀ p : Int, 0 ≤ p → p < n → g' p = g p) : cnt g' n = cnt g n := by
  induction n with
  | zero => rfl
  | succ n ih => rw [cnt, cnt, ih (fun p a b => h p a (by omega)), h n (by omega) (by omega)]
theorem cnt_set {g g' : Int → Int} {p v : Int} (h0 : 0 ≤ p) (hg : g p < 0) (hv : 0 ≤ v) (n : Nat) (hn : p < n) (h : ∀ q, 0 ≤ q → g' q = if q = p then v else g q) : cnt g' n = cnt g n + 1 := by
  induction n with
  | zero => omega
  | succ n ih =>
    rw [cnt, cnt, h n (by omega)]
    by_cases e : (n : Int) = p
    · rw [if_pos e, cnt_congr n (g := g) (fun q a b => by rw [h q a, if_neg (by omega)]), if_pos hv, e, if_neg (by omega)]; omega
    · rw [if_neg e, ih (by omega)]; omega
theorem cnt_full {g : Int → Int} (n : Nat) (h : ∀ p : Int, 0 ≤ p → p < n → 0 ≤ g p) : cnt g n = n := by
  induction n with
  | zero => rfl
  | succ n ih => rw [cnt, ih (fun p a b => h p a (by omega)), if_pos (h n (by omega) (by omega))]; omega
theorem cnt_over {g : Int → Int} (n k : Nat) (h : ∀ p : Int, n ≤ p → g p < 0) : cnt g (n + k) = cnt g n := by
  induction k with
  | zero => rfl
  | succ k ih => rw [← Nat.add_assoc, cnt, ih, if_neg (by have := h ((n + k : Nat) : Int) (by omega); omega)]; omega
theorem gat_pos {got : List Int} {p : Int} (h : 0 ≤ gat got p) : p < got.length := by
  unfold gat at h
  split at h
  · assumption
  · omega
theorem gat_low {c tk : Int} {got : List Int} (h : Got c tk got) {p : Int} (hp : 0 ≤ p) (hn : ¬ 0 ≤ gat got p) : gat got p = -1 := by
  have := (gat_rng h hp).1; omega
theorem putS_loop (b c tk at_ : Int) (l2 : List Int) (d : Int) (e : Bool) (u1 u2 : Int) (ul : List Int) (M : Nat) (hM : tk + c ≤ M) (hb : 0 ≤ b ∧ b ≤ 4611686018427387904) (hc : c ≤ 4096) (ht : 0 ≤ tk ∧ tk ≤ 1099511627776) (hl : l2.length ≤ 32) (hl2 : ∀ x ∈ l2, 0 ≤ x ∧ x ≤ 255) (ha : 0 ≤ at_) (hat : at_ + l2.length ≤ b + tk + c) (s : List Int) :
    ∀ (i n : Int) (got : List Int), 0 ≤ i → i ≤ l2.length → l2.drop i.toNat = s → Got c tk got → 0 ≤ n → n ≤ i →
    ∃ n' got', spec_l5Put.l0 l2 at_ b c tk d e u1 u2 ul n i got = some (n', got') ∧ Got c tk got' ∧ n' - n = cnt (gat got') M - cnt (gat got) M ∧
      ∀ p, 0 ≤ p → gat got' p = if tk ≤ p ∧ at_ + i ≤ b + p ∧ b + p < at_ + l2.length ∧ gat got p < 0 then rd 0 l2 (b + p - at_) else gat got p := by
  induction s with
  | nil =>
    intro i n got h0 h1 hd hg hn0 hn1
    have := suf_nil h0 hd
    rw [spec_l5Put.l0, if_neg this]
    exact ⟨_, _, rfl, hg, by omega, fun p hp => by rw [if_neg (by omega)]⟩
  | cons x t ih =>
    intro i n got h0 h1 hd hg hn0 hn1
    obtain ⟨q1, q2, q3⟩ := suf_cons h0 hd 0
    have hx : 0 ≤ x ∧ x ≤ 255 := hl2 x (by have := List.mem_of_mem_drop (l := l2) (i := i.toNat) (a := x) (by rw [hd]; simp); exact this)
    have e1 : IntKind.u64.wrap i = i := wu64_in (by omega) (by omega)
    have e2 : IntKind.u64.wrap (at_ + i) = at_ + i := wu64_in (by omega) (by omega)
    have hi : 0 ≤ i ∧ i < l2.length := ⟨h0, q1⟩
    by_cases k : at_ + i < b + tk
    · have S : spec_l5Put.l0 l2 at_ b c tk d e u1 u2 ul n i got = spec_l5Put.l0 l2 at_ b c tk d e u1 u2 ul n (i + 1) got := by
        conv => lhs; rw [spec_l5Put.l0]
        rw [if_pos q1, l5Read_is b c got tk d e hb ht, some_bind, e1, e2, if_pos k, some_bind, wi64_in (n := i + 1) (by omega) (by omega)]
      rw [S]
      obtain ⟨n', got', r1, r2, r3, r4⟩ := ih (i + 1) n got (by omega) (by omega) q3 hg hn0 (by omega)
      refine ⟨n', got', r1, r2, r3, fun p hp => ?_⟩
      rw [r4 p hp]
      by_cases z : tk ≤ p ∧ at_ + i ≤ b + p ∧ b + p < at_ + l2.length ∧ gat got p < 0
      · rw [if_pos z, if_pos (by omega)]
      · rw [if_neg z, if_neg (by omega)]
    · obtain ⟨rel, hr⟩ : ∃ rel, at_ + i = b + rel := ⟨at_ + i - b, by omega⟩
      have e3 : IntKind.u64.wrap (at_ + i - b) = rel := (wu64_in (by omega) (by omega)).trans (by omega)
      have e4 : IntKind.i64.wrap rel = rel := wi64_in (by omega) (by omega)
      have hr0 : tk ≤ rel := by omega
      have hr1 : rel < tk + c := by omega
      obtain ⟨y, y1, y2, y3, y4⟩ := ext_loop c tk at_ n i b c 0 tk d e u1 u2 ul rel (by omega) hr1 (by omega) (max (rel + 1) got.length - got.length).toNat got hg (by omega)
      have hy : gat y rel = rd 0 y rel := if_pos y3
      have y5 := y4 rel (by omega)
      by_cases v : rd 0 y rel < 0
      · have S : spec_l5Put.l0 l2 at_ b c tk d e u1 u2 ul n i got = spec_l5Put.l0 l2 at_ b c tk d e u1 u2 ul (n + 1) (i + 1) (y.set rel.toNat x) := by
          conv => lhs; rw [spec_l5Put.l0]
          rw [if_pos q1, l5Read_is b c got tk d e hb ht, some_bind, e1, e2, if_neg k, e3, e4, y1, some_bind, if_pos (show 0 ≤ rel ∧ rel < y.length from ⟨by omega, y3⟩), if_pos v, if_pos hi, q2, some_bind, wi64_in (n := i + 1) (by omega) (by omega), wi64_in (n := n + 1) (by omega) (by omega), wi64_in (n := x) (by omega) (by omega)]
        rw [S]
        have hs : ∀ q, 0 ≤ q → gat (y.set rel.toNat x) q = if q = rel then x else gat got q := fun q hq => by
          rw [gat_set (by omega) y3 q hq, y4 q hq]
        have hc1 := cnt_set (g := gat got) (g' := gat (y.set rel.toNat x)) (p := rel) (v := x) (by omega) (by omega) hx.1 M (by omega) hs
        obtain ⟨n', got', r1, r2, r3, r4⟩ := ih (i + 1) (n + 1) (y.set rel.toNat x) (by omega) (by omega) q3 ⟨by rw [List.length_set]; exact y2.len, fun z hz => by
          rcases List.mem_or_eq_of_mem_set hz with hz | hz
          · exact y2.rng z hz
          · omega⟩ (by omega) (by omega)
        refine ⟨n', got', r1, r2, by omega, fun p hp => ?_⟩
        rw [r4 p hp, hs p hp]
        by_cases w : p = rel
        · have hix : b + p - at_ = i := by omega
          rw [if_pos w, if_neg (by omega), if_pos (by rw [w]; omega), hix, q2]
        · rw [if_neg w]
          by_cases z : tk ≤ p ∧ at_ + i ≤ b + p ∧ b + p < at_ + l2.length ∧ gat got p < 0
          · rw [if_pos z, if_pos (by omega)]
          · rw [if_neg z, if_neg (by omega)]
      · have S : spec_l5Put.l0 l2 at_ b c tk d e u1 u2 ul n i got = spec_l5Put.l0 l2 at_ b c tk d e u1 u2 ul n (i + 1) y := by
          conv => lhs; rw [spec_l5Put.l0]
          rw [if_pos q1, l5Read_is b c got tk d e hb ht, some_bind, e1, e2, if_neg k, e3, e4, y1, some_bind, if_pos (show 0 ≤ rel ∧ rel < y.length from ⟨by omega, y3⟩), if_neg v, some_bind, wi64_in (n := i + 1) (by omega) (by omega)]
        rw [S]
        obtain ⟨n', got', r1, r2, r3, r4⟩ := ih (i + 1) n y (by omega) (by omega) q3 y2 hn0 (by omega)
        have hc1 := cnt_congr (g := gat got) (g' := gat y) M (fun p a _ => y4 p a)
        refine ⟨n', got', r1, r2, by omega, fun p hp => ?_⟩
        rw [r4 p hp, y4 p hp]
        by_cases w : p = rel
        · rw [if_neg (by rw [w]; omega), if_neg (by rw [w]; omega)]
        · by_cases z : tk ≤ p ∧ at_ + i ≤ b + p ∧ b + p < at_ + l2.length ∧ gat got p < 0
          · rw [if_pos z, if_pos (by omega)]
          · rw [if_neg z, if_neg (by omega)]
/-- What a put that is let in does. -/
structure PutOk (b c tk at_ : Int) (l : List Int) (n : Int) (M : Nat) (got got' : List Int) : Prop where
  len : 1 ≤ l.length ∧ l.length ≤ 32
  fit : at_ + l.length ≤ b + tk + c
  n : n = cnt (gat got') M - cnt (gat got) M
  at_ : ∀ p, 0 ≤ p → gat got' p = if tk ≤ p ∧ at_ ≤ b + p ∧ b + p < at_ + l.length ∧ gat got p < 0 then rd 0 l (b + p - at_) else gat got p
theorem put_sem (b c d tk at_ : Int) (e : Bool) (got : List Int) (l : List Int) (M : Nat) (hM : tk + c ≤ M) (hc1 : 1 ≤ c) (hb : 0 ≤ b ∧ b ≤ 4611686018427387904) (hc : c ≤ 4096) (ht : 0 ≤ tk ∧ tk ≤ 1099511627776) (ha : 0 ≤ at_ ∧ at_ ≤ 18446744073709551615) (hl : l.length ≤ 1048576) (hl2 : ∀ x ∈ l, 0 ≤ x ∧ x ≤ 255) (hg : Got c tk got) :
    ∃ code n got', spec_l5Put.f b c got tk d e at_ l = some (code, n, [], got') ∧ Got c tk got' ∧ ((code ≠ 0 ∧ got' = got) ∨ (code = 0 ∧ PutOk b c tk at_ l n M got got')) := by
  have e1 : IntKind.u64.wrap (b + tk + c) = b + tk + c := wu64_in (by omega) (by omega)
  have e2 : IntKind.u64.wrap c = c := wu64_in (by omega) (by omega)
  have e3 : IntKind.u64.wrap (l.length : Int) = l.length := wu64_in (by omega) (by omega)
  unfold spec_l5Put.f
  rw [l5Read_is _ _ _ _ _ _ hb ht, e2, e3]
  simp only [some_bind, e1]
  by_cases k1 : l.length < 1 ∨ l.length > 32
  · have S : ((if (l.length : Int) < 1 then some true else some (decide ((l.length : Int) > 32))) : Option Bool) = some true := by
      split
      · rfl
      · rw [decide_eq_true (by omega)]
    rw [S, some_bind, if_pos rfl]
    exact ⟨_, _, _, rfl, hg, .inl ⟨by decide, rfl⟩⟩
  rw [if_neg (show ¬ (l.length : Int) < 1 by omega), decide_eq_false (show ¬ (l.length : Int) > 32 by omega), some_bind, if_neg nft]
  by_cases k2 : at_ > b + tk + c ∨ (l.length : Int) > b + tk + c - at_
  · have S : ((if at_ > b + tk + c then some true else some (decide ((l.length : Int) > IntKind.u64.wrap (b + tk + c - at_)))) : Option Bool) = some true := by
      split
      · rfl
      · rw [wu64_in (by omega) (by omega), decide_eq_true (by omega)]
    rw [S, some_bind, if_pos rfl]
    exact ⟨_, _, _, rfl, hg, .inl ⟨by decide, rfl⟩⟩
  rw [if_neg (show ¬ at_ > b + tk + c by omega), wu64_in (n := b + tk + c - at_) (by omega) (by omega), decide_eq_false (show ¬ (l.length : Int) > b + tk + c - at_ by omega), some_bind, if_neg nft]
  obtain ⟨j, J⟩ : ∃ j : Bool, ((if e = true then some (decide (IntKind.u64.wrap (at_ + l.length) > d)) else some false) : Option Bool) = some j := by
    cases e
    · exact ⟨_, if_neg nft⟩
    · exact ⟨_, if_pos rfl⟩
  rw [J, some_bind]
  cases j with
  | true => rw [if_pos rfl]; exact ⟨_, _, _, rfl, hg, .inl ⟨by decide, rfl⟩⟩
  | false =>
    rw [if_neg nft]
    obtain ⟨n', got', r1, r2, r3, r4⟩ := putS_loop b c tk at_ l d e 0 0 [] M hM hb hc ht (by omega) hl2 ha.1 (by omega) l 0 0 got (by omega) (by omega) rfl hg (by omega) (by omega)
    rw [r1, some_bind]
    refine ⟨0, n', got', rfl, r2, .inr ⟨rfl, ⟨by omega, by omega⟩, by omega, by omega, fun p hp => ?_⟩⟩
    rw [r4 p hp, Int.add_zero]
theorem takeS_loop (b c d tk q a1 j : Int) (e : Bool) (got : List Int) (u1 u2 u3 : Int) (ul : List Int) (hb : 0 ≤ b ∧ b ≤ 4611686018427387904) (hc : c ≤ 4096) (ht : 0 ≤ tk ∧ tk ≤ 1099511627776) (hg : Got c tk got) (hq : q ≤ tk + c) (hq1 : ∀ p, tk ≤ p → p < q → 0 ≤ gat got p)
    (hj : j = min (q - tk) (max 0 a1)) (n : Nat) : ∀ (i : Int) (out : List Int), 0 ≤ i → i + n = j → (out.length : Int) = i → (∀ k, 0 ≤ k → k < i → rd 0 out k = gat got (tk + k)) →
    ∃ out', spec_l5Take.l0 a1 q b c got d e u1 u2 ul u3 (tk + i) i out = some (tk + j, j, out') ∧ (out'.length : Int) = j ∧ (∀ k, 0 ≤ k → k < j → rd 0 out' k = gat got (tk + k)) := by
  induction n with
  | zero =>
    intro i out h0 h1 h2 hw
    have h1 : i = j := by omega
    have S : spec_l5Take.l0 a1 q b c got d e u1 u2 ul u3 (tk + i) i out = some (tk + i, i, out) := by
      rw [spec_l5Take.l0]
      by_cases k : tk + i < q
      · rw [if_pos k, some_bind, decide_eq_false (show ¬ i < a1 by omega), if_neg (by decide)]
      · rw [if_neg k, some_bind, if_neg (by decide)]
    rw [S, h1]
    exact ⟨out, rfl, by omega, fun k a b => hw k a (by omega)⟩
  | succ n ih =>
    intro i out h0 h1 h2 hw
    have k : tk + i < q := by omega
    have g0 := hq1 (tk + i) (by omega) k
    have g1 := (gat_rng hg (p := tk + i) (by omega)).2
    have gl := gat_pos g0
    have ge : gat got (tk + i) = rd 0 got (tk + i) := if_pos gl
    have S : spec_l5Take.l0 a1 q b c got d e u1 u2 ul u3 (tk + i) i out = spec_l5Take.l0 a1 q b c got d e u1 u2 ul u3 (tk + (i + 1)) (i + 1) (out ++ [gat got (tk + i)]) := by
      conv => lhs; rw [spec_l5Take.l0]
      rw [if_pos k, some_bind, decide_eq_true (show i < a1 by omega), if_pos rfl, if_pos (show 0 ≤ tk + i ∧ tk + i < got.length from ⟨by omega, gl⟩), if_pos (by omega), ← ge, wu8_in g0 g1, wi64_in (n := tk + i + 1) (by omega) (by omega), wi64_in (n := i + 1) (by omega) (by omega), Int.add_assoc]
    rw [S]
    refine ih (i + 1) _ (by omega) (by omega) (len_snoc h2) (fun k a b => ?_)
    by_cases w : k < i
    · rw [rd_snoc_lt a (by omega)]; exact hw k a w
    · have : k = i := by omega
      rw [rd_snoc_eq (by omega), this]
theorem take_sem (b c d tk a1 : Int) (e : Bool) (got : List Int) (hb : 0 ≤ b ∧ b ≤ 4611686018427387904) (hc0 : 1 ≤ c) (hc : c ≤ 4096) (ht : 0 ≤ tk ∧ tk ≤ 1099511627776) (hg : Got c tk got) :
    ∃ code n out, spec_l5Take.f b c got tk d e a1 = some (code, n, out, tk + n) ∧ 0 ≤ n ∧ n ≤ c ∧ (out.length : Int) = n ∧ (∀ k, 0 ≤ k → k < n → rd 0 out k = gat got (tk + k) ∧ 0 ≤ gat got (tk + k)) ∧ (code = 15 → e = true ∧ b + (tk + n) = d) := by
  have hlen := hg.len
  obtain ⟨q, q1, q2, q3, q4, q5⟩ := next_spec b c d tk e got (by omega) got.length tk ht.1 (by omega) (by omega)
  have hq : q ≤ tk + c := by omega
  obtain ⟨j, hj⟩ : ∃ j, j = min (q - tk) (max 0 a1) := ⟨_, rfl⟩
  obtain ⟨out', T1, T3, T4⟩ := takeS_loop b c d tk q a1 j e got 0 0 0 [] hb hc ht hg hq q4 hj j.toNat 0 [] (by omega) (by omega) rfl (fun k a b => by omega)
  rw [Int.add_zero] at T1
  refine ⟨if j = 0 ∧ e = true ∧ b + (tk + j) = d then 15 else 0, j, out', ?_, by omega, by omega, T3, fun k a b => ⟨T4 k a b, q4 (tk + k) (by omega) (by omega)⟩, fun h => ?_⟩
  · unfold spec_l5Take.f spec_l5Next.f
    rw [q1, some_bind, some_bind, T1, some_bind]
    simp only
    by_cases j0 : j = 0
    · rw [if_pos j0]
      cases e with
      | false => rw [if_neg (by simp), if_neg (by simp), some_bind, if_neg (by decide), some_bind]
      | true =>
        rw [if_pos rfl, l5Read_is _ _ _ _ _ _ hb (by omega), some_bind, some_bind]
        by_cases k : b + (tk + j) = d
        · rw [decide_eq_true k, if_pos rfl, if_pos ⟨j0, rfl, k⟩, some_bind]
        · rw [decide_eq_false k, if_neg (by decide), if_neg (fun h => k h.2.2), some_bind]
    · rw [if_neg j0, if_neg (fun h => j0 h.1), some_bind, if_neg (by decide), some_bind]
  · split at h
    · rename_i w; exact w.2
    · cases h
theorem fin_sem (b c d tk at_ : Int) (e : Bool) (got : List Int) (hb : 0 ≤ b ∧ b ≤ 4611686018427387904) (hc : c ≤ 4096) (hc0 : 1 ≤ c) (ht : 0 ≤ tk ∧ tk ≤ 1099511627776) (ha : 0 ≤ at_ ∧ at_ ≤ 18446744073709551615) (hg : Got c tk got) :
    ∃ code d' e', spec_l5Fin.f b c got tk d e at_ = some (code, 0, [], d', e') ∧ (e = true → e' = true ∧ d' = d) := by
  have hlen := hg.len
  have e1 : IntKind.u64.wrap (b + tk + c) = b + tk + c := wu64_in (by omega) (by omega)
  have e2 : IntKind.u64.wrap c = c := wu64_in (by omega) (by omega)
  unfold spec_l5Fin.f
  rw [l5Read_is _ _ _ _ _ _ hb ht]
  simp only [some_bind]
  have J : ∃ j : Bool, ((if e = true then (if d ≠ at_ then some true else some (decide (at_ < b + tk))) else some (decide (at_ < b + tk))) : Option Bool) = some j ∧ (j = false → b + tk ≤ at_ ∧ (e = true → d = at_)) := by
    cases e with
    | false => exact ⟨_, if_neg nft, fun h => ⟨by have := of_decide_eq_false h; omega, fun h => absurd h nft⟩⟩
    | true =>
      rw [if_pos rfl]
      by_cases k : d ≠ at_
      · rw [if_pos k]; exact ⟨_, rfl, fun h => by cases h⟩
      · rw [if_neg k]; exact ⟨_, rfl, fun h => ⟨by have := of_decide_eq_false h; omega, fun _ => by omega⟩⟩
  obtain ⟨j, J1, J2⟩ := J
  rw [J1, some_bind]
  cases j with
  | true => rw [if_pos rfl]; exact ⟨_, _, _, rfl, fun h => ⟨h, rfl⟩⟩
  | false =>
    have hat := J2 rfl
    rw [if_neg nft, e2, e1]
    rcases fin_spec b c d tk at_ e got 0 0 [] hb (by omega) got.length tk ht.1 (by omega) with ⟨r1, p, p0, p1, p2, p3⟩ | ⟨r1, r2⟩
    · rw [r1, some_bind]
      exact ⟨_, _, _, rfl, fun h => ⟨h, rfl⟩⟩
    · rw [r1, some_bind]
      simp only
      by_cases k : at_ > b + tk + c
      · rw [if_pos k]; exact ⟨_, _, _, rfl, fun h => ⟨h, rfl⟩⟩
      · rw [if_neg k]; exact ⟨_, _, _, rfl, fun h => ⟨rfl, (hat.2 h).symm⟩⟩
/-- A state of the reference's buffer. -/
structure St5 where
  got : List Int
  tk : Int
  d : Int
  e : Bool
/-- What a step does. -/
structure Sem (b c : Int) (M : Nat) (s : St5) (x : S116) (o : S118) (s' : St5) : Prop where
  got : Got c s'.tk s'.got
  fin : s.e = true → s'.e = true ∧ s'.d = s.d
  put : x.f0 = 1 → s'.tk = s.tk ∧ ((o.f0 ≠ 0 ∧ s'.got = s.got) ∨ (o.f0 = 0 ∧ PutOk b c s.tk x.f1 x.f2 o.f1 M s.got s'.got))
  take : x.f0 = 2 → s'.got = s.got ∧ s'.tk = s.tk + o.f1 ∧ 0 ≤ o.f1 ∧ (o.f2.length : Int) = o.f1 ∧ (∀ k, 0 ≤ k → k < o.f1 → rd 0 o.f2 k = gat s.got (s.tk + k) ∧ 0 ≤ gat s.got (s.tk + k)) ∧ (o.f0 = 15 → s.e = true ∧ b + s'.tk = s.d)
  oth : x.f0 ≠ 1 → x.f0 ≠ 2 → s'.got = s.got ∧ s'.tk = s.tk
theorem step_sem (b c d tk : Int) (e : Bool) (got : List Int) (x : S116) (hx : EvOk x) (M : Nat) (hM : tk + c ≤ M) (hc0 : 1 ≤ c) (hb : 0 ≤ b ∧ b ≤ 4611686018427387904) (hc : c ≤ 4096) (ht : 0 ≤ tk ∧ tk ≤ 1099511627776) (hg : Got c tk got) :
    ∃ code n out got' tk' d' e', spec_l5Step.f b c got tk d e x.f0 x.f1 x.f2 x.f3 = some (code, n, out, got', tk', d', e') ∧ Sem b c M ⟨got, tk, d, e⟩ x ⟨code, n, out⟩ ⟨got', tk', d', e'⟩ := by
  unfold spec_l5Step.f
  by_cases k1 : x.f0 = 1
  · obtain ⟨code, n, got', r1, r2, r3⟩ := put_sem b c d tk x.f1 e got x.f2 M hM hc0 hb hc ht hx.at_ hx.len hx.byte hg
    rw [if_pos k1, r1, some_bind]
    exact ⟨_, _, _, _, _, _, _, rfl, r2, fun h => ⟨h, rfl⟩, fun _ => ⟨rfl, r3⟩, fun h => absurd (k1.symm.trans h) (by decide), fun h => absurd k1 h⟩
  · by_cases k2 : x.f0 = 2
    · obtain ⟨code, n, out, r1, r2, r3, r4, r5, r6⟩ := take_sem b c d tk x.f3 e got hb hc0 hc ht hg
      rw [if_neg k1, if_pos k2, r1, some_bind]
      exact ⟨_, _, _, _, _, _, _, rfl, ⟨by have := hg.len; show (got.length : Int) ≤ tk + n + c; omega, hg.rng⟩, fun h => ⟨h, rfl⟩, fun h => absurd h k1, fun _ => ⟨rfl, rfl, r2, r4, r5, r6⟩, fun _ h => absurd k2 h⟩
    · by_cases k3 : x.f0 = 3
      · obtain ⟨code, d', e', r1, r2⟩ := fin_sem b c d tk x.f1 e got hb hc hc0 ht hx.at_ hg
        rw [if_neg k1, if_neg k2, if_pos k3, r1, some_bind]
        exact ⟨_, _, _, _, _, _, _, rfl, hg, r2, fun h => absurd h k1, fun h => absurd h k2, fun _ _ => ⟨rfl, rfl⟩⟩
      · rw [if_neg k1, if_neg k2, if_neg k3]
        exact ⟨_, _, _, _, _, _, _, rfl, hg, fun h => ⟨h, rfl⟩, fun h => absurd h k1, fun h => absurd h k2, fun _ _ => ⟨rfl, rfl⟩⟩
/-- A run of events with its answers. -/
def Tr5 (b c : Int) (M : Nat) : List S116 → List S118 → St5 → St5 → Prop
  | [], [], s, s' => s = s'
  | x :: t, o :: u, s, s' => ∃ s1, Sem b c M s x o s1 ∧ Tr5 b c M t u s1 s'
  | _, _, _, _ => False
theorem Tr5_len {b c : Int} {M : Nat} : ∀ {t : List S116} {u : List S118} {s s' : St5}, Tr5 b c M t u s s' → u.length = t.length
  | [], [], _, _, _ => rfl
  | x :: t, o :: u, s, s', h => by
    obtain ⟨s1, _, h2⟩ := h
    rw [List.length_cons, List.length_cons, Tr5_len h2]
  | [], _ :: _, _, _, h => h.elim
  | _ :: _, [], _, _, h => h.elim
theorem run_tr (b c : Int) (l : List S116) (u1 u2 u4 u5 : Int) (u3 : List Int) (u6 : Bool) (M : Nat) (hM : 16400000 ≤ M) (hl : l.length ≤ 4000) (hb : 0 ≤ b ∧ b ≤ 4611686018427387904) (hc : c ≤ 4096) (s : List S116) (hs : ∀ x ∈ s, EvOk x) :
    ∀ (i tk d : Int) (e : Bool) (got by_ : List Int) (hv : List Bool) (outs : List S118), 0 ≤ i → i ≤ l.length → l.drop i.toNat = s → 0 ≤ tk → tk ≤ 4096 * i → Got c tk got → Win b c tk (gat got) by_ hv → (outs.length : Int) = i →
    ∃ got' tk' d' e' by' hv' us, spec_l5Run.l0 l u1 u2 u3 u4 u5 u6 b c i got tk d e outs = some (got', tk', d', e', outs ++ us) ∧ impl_reorderAfter.l0 l l.length c i by_ hv (b + tk) e d outs = some (by', hv', b + tk', e', d', outs ++ us) ∧
      Got c tk' got' ∧ Win b c tk' (gat got') by' hv' ∧ 0 ≤ tk' ∧ tk' ≤ 16384000 ∧ Tr5 b c M s us ⟨got, tk, d, e⟩ ⟨got', tk', d', e'⟩ := by
  induction s with
  | nil =>
    intro i tk d e got by_ hv outs h0 h1 hd h2 h3 hg hw h4
    have := suf_nil h0 hd
    rw [spec_l5Run.l0, if_neg this, impl_reorderAfter.l0, if_neg this]
    exact ⟨_, _, _, _, _, _, [], by rw [List.append_nil], by rw [List.append_nil], hg, hw, by omega, by omega, rfl⟩
  | cons x t ih =>
    intro i tk d e got by_ hv outs h0 h1 hd h2 h3 hg hw h4
    obtain ⟨q1, q2, q3⟩ := suf_cons h0 hd z116
    obtain ⟨code, n, out, got', tk', d', e', by', hv', r1, r2, r3, r4, r5, r6, r7, r8⟩ := step_both b c d tk e got by_ hv x (hs x (by simp)) hb hc (by omega) hg hw
    obtain ⟨code2, n2, out2, got2, tk2, d2, e2, w1, w2⟩ := step_sem b c d tk e got x (hs x (by simp)) M (by omega) (by have := hw.hc; omega) hb hc (by omega) hg
    rw [r1] at w1
    cases w1
    have hi : 0 ≤ i ∧ i < l.length := ⟨h0, q1⟩
    rw [spec_l5Run.l0, if_pos q1, if_pos hi, q2, r1, some_bind, if_pos (by omega), impl_reorderAfter.l0, if_pos q1, if_pos hi, q2, r2, some_bind, if_pos (by omega), wi64_in (n := i + 1) (by omega) (by omega)]
    obtain ⟨g3, tk3, d3, e3, b3, v3, us, s1, s2, s3, s4, s5, s6, s7⟩ := ih (fun y hy => hs y (by simp [hy])) (i + 1) tk' d' e' got' by' hv' (outs ++ [⟨code, n, out⟩]) (by omega) (by omega) q3 (by omega) (by omega) r6 r7 (len_snoc h4)
    rw [List.append_assoc] at s1 s2
    exact ⟨g3, tk3, d3, e3, b3, v3, ⟨code, n, out⟩ :: us, s1, s2, s3, s4, s5, s6, ⟨_, w2, s7⟩⟩
theorem win0 (b c : Int) (hc : 1 ≤ c) : Win b c 0 (gat []) (List.replicate c.toNat 0) (List.replicate c.toNat false) := by
  have hn : ∀ p, 0 ≤ p → gat [] p < 0 := fun p hp => by
    unfold gat; rw [if_neg (by simp only [List.length_nil]; omega)]; omega
  refine ⟨by omega, by rw [List.length_replicate]; omega, by rw [List.length_replicate]; omega, fun p hp _ => ?_, fun p hp _ h => ?_, fun p hp => hn p (by omega)⟩
  · have : ∀ q, rd false (List.replicate c.toNat false) q = false := fun q => by simp [rd, List.getElem?_replicate]; split <;> rfl
    rw [this]; symm; rw [decide_eq_false_iff_not]; have := hn p hp; omega
  · have := hn p hp; omega
end Go.AK
