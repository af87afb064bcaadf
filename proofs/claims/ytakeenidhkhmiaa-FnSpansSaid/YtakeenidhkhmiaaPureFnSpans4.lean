/- For every list of bytes the law FnSpans answers true: sum, cut, gaps, has and size of the drawn set fit one another. Conditions: those of the kinds of its arguments. -/
import Derived.Test.YtakeenidhkhmiaaPureFnSpans3
set_option linter.unusedSimpArgs false
set_option linter.unusedVariables false
namespace Go.AK
open Go
theorem passAt1 (l : List Span) (a b q : Int) : passAt 1 l ⟨a, b⟩ q = true ↔ In l q ∨ (a ≤ q ∧ q < b) := by simp [passAt, pass, In_one]
theorem passAt2 (l : List Span) (a b q : Int) : passAt 2 l ⟨a, b⟩ q = true ↔ In l q ∧ ¬ (a ≤ q ∧ q < b) := by
  simp only [passAt, pass, In_one, show ¬ ((2 : Int) = 1) by decide, if_false, if_true, Bool.and_eq_true, Bool.not_eq_true', decide_eq_true_iff, decide_eq_false_iff_not]
theorem passAt3 (l : List Span) (a b q : Int) : passAt 3 l ⟨a, b⟩ q = true ↔ a ≤ q ∧ q < b ∧ ¬ In l q := by simp [passAt, pass, In_one, and_assoc]
theorem rng_pos {L : List Span} (h : rngL L) : ∀ x ∈ L, 0 ≤ x.f0 ∧ 0 ≤ x.f1 := fun x hx => ⟨(h x hx).1.1, (h x hx).2.1⟩
section
variable (L : List Span) (a b : Int) (hL : rngL L) (hab0 : 0 ≤ a ∧ 0 ≤ b) (hs : setok L = true) (hab : a ≤ b)
include hL hab0 hs hab
theorem spec_add_is : spec_SpanAdd.f L a b = some (lim (plusL a b L)) := by
  obtain ⟨h1, h2⟩ := setok_of hs
  obtain ⟨res, e, r1, r2⟩ := build_is 1 (by simp) L a b h1 (rng_pos hL) hab0
  have : res = plusL a b L := canon r1 (plusL_ok a b hab L h2 (by omega)) (fun q => by rw [r2, passAt1, plusL_in a b hab L h2])
  unfold spec_SpanAdd.f
  rw [do_good 1 L res a b hs hab (fun x hx => (hL x hx).1.1) e, this]; rfl
theorem spec_cut_is : spec_SpanCut.f L a b = some (lim (cutL a b L)) := by
  obtain ⟨h1, h2⟩ := setok_of hs
  obtain ⟨res, e, r1, r2⟩ := build_is 2 (by simp) L a b h1 (rng_pos hL) hab0
  have : res = cutL a b L := canon r1 (cutL_ok a b hab L h2) (fun q => by rw [r2, passAt2, cutL_in a b hab L])
  unfold spec_SpanCut.f
  rw [do_good 2 L res a b hs hab (fun x hx => (hL x hx).1.1) e, this]; rfl
theorem spec_gaps_is : spec_SpanGaps.f L a b = some (lim (gapsL b a L)) := by
  obtain ⟨h1, h2⟩ := setok_of hs
  obtain ⟨res, e, r1, r2⟩ := build_is 3 (by simp) L a b h1 (rng_pos hL) hab0
  have : res = gapsL b a L := canon r1 (gapsL_ok (m0 := -1) b L a h2 (by omega)) (fun q => by rw [r2, passAt3, gapsL_in b L q a h2])
  unfold spec_SpanGaps.f
  rw [do_good 3 L res a b hs hab (fun x hx => (hL x hx).1.1) e, this]; rfl
end
theorem ok_pos {L : List Span} (h : okF (-1) L) : ∀ x ∈ L, 0 ≤ x.f0 := fun x hx => by have := (okF_el h x hx).1; omega
theorem has_loop (u v a b : Int) (L P B J : List Span) (hl : L.length ≤ 1000000) (hall : ∀ x ∈ L, impl_SpanHas.f P x.f0 x.f1 = some (1, 0)) (xs : List Span) : ∀ i : Int, 0 ≤ i → L.drop i.toNat = xs → laws_FnSpans.l1 u v L a b P B J i = some (.a ()) := by
  induction xs with
  | nil => intro i h0 hd; rw [laws_FnSpans.l1, if_neg (suf_nil h0 hd)]
  | cons x t ih =>
    intro i h0 hd
    obtain ⟨q1, q2, q3⟩ := suf_cons h0 hd z31
    have hm : x ∈ L := by rw [← q2]; exact rd_mem h0 q1
    rw [laws_FnSpans.l1, if_pos q1, if_pos ⟨h0, q1⟩, q2, hall x hm, some_bind, if_neg (by decide), wi64_in (n := i + 1) (by omega) (by omega)]
    exact ih (i + 1) (by omega) q3
theorem has_loop1 (u v a b : Int) (L P : List Span) (hl : L.length ≤ 1000000) (hall : ∀ x ∈ L, impl_SpanHas.f P x.f0 x.f1 = some (1, 0)) (xs : List Span) : ∀ i : Int, 0 ≤ i → L.drop i.toNat = xs → laws_FnSpans.l1_1 u v L a b P i = some (.a ()) := by
  induction xs with
  | nil => intro i h0 hd; rw [laws_FnSpans.l1_1, if_neg (suf_nil h0 hd)]
  | cons x t ih =>
    intro i h0 hd
    obtain ⟨q1, q2, q3⟩ := suf_cons h0 hd z31
    have hm : x ∈ L := by rw [← q2]; exact rd_mem h0 q1
    rw [laws_FnSpans.l1_1, if_pos q1, if_pos ⟨h0, q1⟩, q2, hall x hm, some_bind, if_neg (by decide), wi64_in (n := i + 1) (by omega) (by omega)]
    exact ih (i + 1) (by omega) q3
/-- What holds ahead of a round over the gaps. -/
structure GI (L P pre B J : List Span) : Prop where
  bok : okF (-1) B
  bin : ∀ q, In B q ↔ In P q ∧ ¬ In pre q
  blen : B.length ≤ 1000
  bsm : L.length ≤ 12 → B.length ≤ 13 + pre.length
  jok : okF (-1) J
  jin : ∀ q, In J q ↔ In L q ∨ In pre q
  jlen : J.length ≤ 1000
  jsm : L.length ≤ 12 → J.length ≤ 12 + pre.length
theorem round {L P pre B J : List Span} (h : GI L P pre B J) (x : Span) (hL : L.length ≤ 12 ∨ 980 < L.length) (hx : -1 < x.f0 ∧ x.f0 < x.f1) (hp : L.length ≤ 12 → pre.length ≤ 13) :
    ∃ c1 c2, impl_SpanCut.f B x.f0 x.f1 = some c1 ∧ impl_SpanAdd.f J x.f0 x.f1 = some c2 ∧
      ((c1.2 = 0 ∧ c2.2 = 0 ∧ GI L P (pre ++ [x]) c1.1 c2.1) ∨ (980 < L.length ∧ (c1.2 ≠ 0 ∨ c2.2 ≠ 0))) := by
  refine ⟨_, _, cut_is B x.f0 x.f1 (ok_pos h.bok) (setok_is h.blen h.bok) (by omega), add_is J x.f0 x.f1 (ok_pos h.jok) (setok_is h.jlen h.jok) (by omega), ?_⟩
  have l1 := cutL_len x.f0 x.f1 B h.bok
  have l2 := plusL_len x.f0 x.f1 J
  have ho := cutL_ok x.f0 x.f1 (by omega) B h.bok
  have hj := plusL_ok x.f0 x.f1 (by omega) J h.jok hx.1
  have s1 := h.bsm
  have s2 := h.jsm
  by_cases c : (cutL x.f0 x.f1 B).length ≤ 1000 ∧ (plusL x.f0 x.f1 J).length ≤ 1000
  · left
    have e1 : lim (cutL x.f0 x.f1 B) = (cutL x.f0 x.f1 B, 0) := if_neg (by omega)
    have e2 : lim (plusL x.f0 x.f1 J) = (plusL x.f0 x.f1 J, 0) := if_neg (by omega)
    rw [e1, e2]
    refine ⟨rfl, rfl, ho, fun q => ?_, c.1, fun hs => ?_, hj, fun q => ?_, c.2, fun hs => ?_⟩
    · rw [cutL_in x.f0 x.f1 (by omega), h.bin, In_append, In_one]
      constructor
      · rintro ⟨⟨g1, g2⟩, g3⟩; exact ⟨g1, fun o => o.elim g2 g3⟩
      · rintro ⟨g1, g2⟩; exact ⟨⟨g1, fun o => g2 (.inl o)⟩, fun o => g2 (.inr o)⟩
    · have := s1 hs
      rw [List.length_append, List.length_singleton]; show (cutL x.f0 x.f1 B).length ≤ _; omega
    · rw [plusL_in x.f0 x.f1 (by omega) J h.jok, h.jin, In_append, In_one, or_assoc]
    · have := s2 hs
      rw [List.length_append, List.length_singleton]; show (plusL x.f0 x.f1 J).length ≤ _; omega
  · right
    refine ⟨?_, ?_⟩
    · rcases hL with hL | hL
      · have := s1 hL
        have := s2 hL
        have := hp hL
        omega
      · exact hL
    · by_cases d : (cutL x.f0 x.f1 B).length ≤ 1000
      · right
        have : lim (plusL x.f0 x.f1 J) = ([], 5) := if_pos (by omega)
        rw [this]; decide
      · left
        have : lim (cutL x.f0 x.f1 B) = ([], 5) := if_pos (by omega)
        rw [this]; decide
theorem widths {pre t : List Span} {x : Span} {m : Int} (hok : okF m (pre ++ x :: t)) (h0 : -1 ≤ m) (hm : tot (pre ++ x :: t) < 18446744073709551616) (hx : x.f1 < 18446744073709551616) :
    IntKind.u64.wrap (IntKind.u64.wrap (tot pre + x.f1) - x.f0) = tot (pre ++ [x]) := by
  have h := okF_append.1 hok
  obtain ⟨h1, h2, h3⟩ := h.2
  have p := tot_nonneg h.1
  have q := tot_nonneg h3
  have r := top_ge h.1
  rw [tot_append] at hm ⊢
  simp only [tot] at hm ⊢
  rw [wu64, wu64]
  omega
theorem gap_loop (l0 : List Int) (u a b : Int) (L P G : List Span) (hL : L.length ≤ 12 ∨ 980 < L.length) (hG : G.length ≤ 1000) (hGs : L.length ≤ 12 → G.length ≤ 13) (hok : okF (-1) G) (hm : tot G < 18446744073709551616) (hr : ∀ x ∈ G, x.f1 < 18446744073709551616) (xs : List Span) :
    ∀ (pre : List Span) (i : Int) (B J : List Span), G = pre ++ xs → (pre.length : Int) = i → GI L P pre B J →
    laws_FnSpans.l0 l0 0 u L a b P G (tot pre) i B J = some (.b true) ∨ ∃ B' J', laws_FnSpans.l0 l0 0 u L a b P G (tot pre) i B J = some (.a (tot G, B', J')) ∧ GI L P G B' J' := by
  induction xs with
  | nil =>
    intro pre i B J h hi hg
    rw [laws_FnSpans.l0, if_neg (by rw [h]; exact nlt_app hi)]
    rw [List.append_nil] at h
    subst h
    exact .inr ⟨_, _, rfl, hg⟩
  | cons x t ih =>
    intro pre i B J h hi hg
    have hlt : 0 ≤ i ∧ i < (G.length : Int) := by rw [h]; exact lt_app hi
    have e : rd z31 G i = x := by rw [h]; exact rd_app hi
    have hlen := app_len h
    rw [List.length_cons] at hlen
    have hmem : x ∈ G := by rw [h]; simp
    obtain ⟨c1, c2, e1, e2, hc⟩ := round hg x hL (okF_el hok x hmem) (fun hs => by have := hGs hs; omega)
    rw [laws_FnSpans.l0, if_pos hlt.2, if_pos hlt, e, e1, some_bind, e2, some_bind]
    rcases hc with ⟨z1, z2, z3⟩ | ⟨z1, z2⟩
    · rw [if_neg (by rw [z1]; decide), some_bind, if_neg (by rw [z2]; decide), wi64_in (n := i + 1) (by omega) (by omega), widths (h ▸ hok) (by omega) (h ▸ hm) (hr x hmem)]
      exact ih (pre ++ [x]) (i + 1) c1.1 c2.1 (cons_snoc h) (len_snoc hi) z3
    · left
      have ej : (if c1.2 ≠ 0 then (some true) else (some (decide (c2.2 ≠ 0)))) = some true := by
        split
        · rfl
        · rw [decide_eq_true]; rcases z2 with z | z
          · exact absurd z (by assumption)
          · exact z
      rw [ej, some_bind, if_pos rfl, if_pos rfl, decide_eq_true (by omega)]
theorem FnSpans_pure (l0 : List Int) (_ : l0.length ≤ maxLen) (_ : ∀ x ∈ l0, (Lit.int .u8 x).wf = true) : laws_FnSpans.f l0 = some true := by
  unfold laws_FnSpans.f
  by_cases c0 : (l0.length : Int) > 1048576
  · rw [if_pos c0]
  rw [if_neg c0]
  obtain ⟨⟨L, a, b⟩, e0, hr⟩ := drawadd_ex l0 (by omega)
  obtain ⟨r1, r2, r3, r4, r5⟩ := hr
  dsimp only at r1 r2 r3 r4 r5
  rw [e0, some_bind]
  dsimp only
  have hp0 : ∀ x ∈ L, 0 ≤ x.f0 := fun x hx => (r1 x hx).1.1
  by_cases good : setok L = true ∧ a ≤ b
  · obtain ⟨hs, hab⟩ := good
    obtain ⟨h1, h2⟩ := setok_of hs
    rw [spec_add_is L a b r1 ⟨r4.1, r5.1⟩ hs hab, some_bind, spec_cut_is L a b r1 ⟨r4.1, r5.1⟩ hs hab, some_bind, spec_gaps_is L a b r1 ⟨r4.1, r5.1⟩ hs hab, some_bind,
      add_is L a b hp0 hs hab, some_bind, cut_is L a b hp0 hs hab, some_bind, gaps_is L a b hp0 hs hab, some_bind]
    rw [if_neg (fun h => h rfl), if_neg (fun h => h rfl), some_bind, if_neg (by simp)]
    have hin := plusL_in a b hab L h2
    have hPok := plusL_ok a b hab L h2 (by omega)
    have hPl := plusL_len a b L
    have hGin := fun q => gapsL_in b L q a h2
    have hGok := gapsL_ok (m0 := -1) b L a h2 (by omega)
    have hGl := gapsL_len b L a
    have hCin := cutL_in a b hab L
    have hCok := cutL_ok a b hab L h2
    have hsz := size_gaps a b hab L a h2 (.inl rfl)
    generalize plusL a b L = P at *
    generalize cutL a b L = C at *
    have hGe : gapsL b a L = gapsL b a L := rfl
    generalize hG0 : gapsL b a L = G at *
    by_cases cP : P.length ≤ 1000
    · have eP : lim P = (P, 0) := if_neg (by omega)
      by_cases cC : C.length ≤ 1000
      · have eC : lim C = (C, 0) := if_neg (by omega)
        by_cases cG : G.length ≤ 1000
        · have eG : lim G = (G, 0) := if_neg (by omega)
          rw [eP, eC, eG]
          dsimp only
          rw [if_neg (fun h => h rfl), if_neg (fun h => h rfl), some_bind, if_neg (by simp)]
          have gP : gapsL b a P = [] := ok_empty (gapsL_ok (m0 := -1) b P a hPok (by omega)) (fun q => by
            rw [gapsL_in b P q a hPok, hin]; rintro ⟨g1, g2, g3⟩; exact g3 (.inr ⟨g1, g2⟩))
          have hs0 := sizeL_nonneg a b L
          have ht0 := tot_nonneg hGok
          have hsum : tot G + sizeL a b L = b - a := by rw [hsz]; split <;> omega
          have zC : sizeL a b C = 0 := sizeL_none a b C (fun q hq => ((hCin q).1 hq).2)
          have hasP := has_is P a b (ok_pos hPok) (setok_is cP hPok) hab (by rw [gP]; simp)
          rw [gP, if_pos rfl] at hasP
          rw [hasP, some_bind, size_is L a b hp0 hs hab (by omega), some_bind, size_is C a b (ok_pos hCok) (setok_is cC hCok) hab (by rw [zC]; omega), some_bind, zC]
          dsimp only
          rw [if_neg (by decide), if_neg (by decide), if_neg (by decide), if_neg (by decide), some_bind, if_neg (by decide)]
          have hall : ∀ x ∈ L, impl_SpanHas.f P x.f0 x.f1 = some (1, 0) := by
            intro x hx
            have hxe := okF_el h2 x hx
            have g0 : gapsL x.f1 x.f0 P = [] := ok_empty (gapsL_ok (m0 := -1) x.f1 P x.f0 hPok hxe.1) (fun q => by
              rw [gapsL_in x.f1 P q x.f0 hPok, hin]; rintro ⟨g1, g2, g3⟩; exact g3 (.inl ⟨x, hx, g1, g2⟩))
            have := has_is P x.f0 x.f1 (ok_pos hPok) (setok_is cP hPok) (by omega) (by rw [g0]; simp)
            rw [g0, if_pos rfl] at this
            exact this
          have hasL := has_is L a b hp0 hs hab (by rw [hG0]; exact cG)
          rw [hG0] at hasL
          have fin : ∀ B J : List Span, okF (-1) B → okF (-1) J → (∀ q, In B q ↔ In P q ∧ ¬ In G q) → (∀ q, In J q ↔ In L q ∨ In G q) → B = L ∧ J = P := by
            intro B J hB hJ b1 j1
            refine ⟨canon hB h2 (fun q => ?_), canon hJ hPok (fun q => ?_)⟩
            · rw [b1, hin, hGin]
              constructor
              · rintro ⟨g | g, n⟩
                · exact g
                · rcases Decidable.em (In L q) with k | k
                  · exact k
                  · exact absurd ⟨g.1, g.2, k⟩ n
              · exact fun g => ⟨.inl g, fun n => n.2.2 g⟩
            · rw [j1, hin, hGin]
              constructor
              · rintro (g | g)
                · exact .inl g
                · exact .inr ⟨g.1, g.2.1⟩
              · rintro (g | g)
                · exact .inl g
                · rcases Decidable.em (In L q) with k | k
                  · exact .inl k
                  · exact .inr ⟨g.1, g.2, k⟩
          have hw : IntKind.u64.wrap (sizeL a b L + tot G) = IntKind.u64.wrap (b - a) := by rw [← hsum, Int.add_comm]
          have hgr : ∀ x ∈ G, x.f1 < 18446744073709551616 := by
            intro x hx
            have he := okF_el hGok x hx
            have : In G (x.f1 - 1) := ⟨x, hx, by omega, by omega⟩
            have := ((hGin _).1 this).2.1
            omega
          have hGI : GI L P [] P L := ⟨hPok, fun q => by simp [In_nil], cP, fun _ => by simp only [List.length_nil]; omega, h2, fun q => by simp [In_nil], h1, fun h => by simpa using h⟩
          by_cases cz : 0 < (G.length : Int)
          · rw [if_pos cz, if_pos ⟨by omega, cz⟩]
            obtain ⟨x, t, hxt⟩ : ∃ x t, G = x :: t := by
              cases hG1 : G with
              | nil => rw [hG1] at cz; simp at cz
              | cons x t => exact ⟨x, t, rfl⟩
            have e : rd z31 G 0 = x := by rw [hxt]; rfl
            have hmem : x ∈ G := by rw [hxt]; simp
            have hne : G ≠ [] := by rw [hxt]; simp
            obtain ⟨d1, d2, f1, f2, hc⟩ := round hGI x r2 (okF_el hGok x hmem) (fun _ => by simp)
            have hwid := widths (pre := []) (t := t) (x := x) (m := -1) (by rw [List.nil_append, ← hxt]; exact hGok) (by omega) (by rw [List.nil_append, ← hxt]; omega) (hgr x hmem)
            have hwid0 : IntKind.u64.wrap (IntKind.u64.wrap (0 + x.f1) - x.f0) = tot ([] ++ [x]) := hwid
            rw [e, f1, some_bind, f2, some_bind]
            rcases hc with ⟨z1, z2, z3⟩ | ⟨z1, z2⟩
            · rw [if_neg (by rw [z1]; decide), some_bind, if_neg (by rw [z2]; decide), hwid0, wi64_in (n := 0 + 1) (by omega) (by omega)]
              rcases gap_loop l0 (sizeL a b L) a b L P G r2 cG (fun hh => by omega) hGok (by omega) hgr t ([] ++ [x]) (0 + 1) d1.1 d2.1 (by rw [hxt]; rfl) rfl z3 with hl | ⟨B', J', hl, hg⟩
              · rw [hl]; rfl
              · obtain ⟨b1, b2⟩ := fin B' J' hg.bok hg.jok hg.bin hg.jin
                subst b1
                subst b2
                rw [hl, some_bind]
                dsimp only
                rw [has_loop _ _ a b B' J' _ _ (by omega) hall B' 0 (by omega) rfl, some_bind]
                dsimp only
                rw [hasL, some_bind, if_pos hw, if_neg hne]
                have ht : ¬ tot G = 0 := fun h => hne ((tot_zero hGok).1 h)
                rw [if_pos (by rw [decide_eq_false ht]; rfl), lspans_is B' (by omega), some_bind, if_pos rfl, lspans_is J' (by omega)]
                rfl
            · have ej : (if d1.2 ≠ 0 then (some true) else (some (decide (d2.2 ≠ 0)))) = some true := by
                split
                · rfl
                · rw [decide_eq_true]; rcases z2 with z | z
                  · exact absurd z (by assumption)
                  · exact z
              rw [ej, some_bind, if_pos rfl, if_pos rfl, decide_eq_true (by omega)]
          · rw [if_neg cz]
            have hG : G = [] := List.length_eq_zero_iff.1 (by omega)
            obtain ⟨b1, b2⟩ := fin P L hPok h2 (fun q => by rw [hG]; simp [In_nil]) (fun q => by rw [hG]; simp [In_nil])
            subst b1
            rw [has_loop1 _ _ a b P P (by omega) hall P 0 (by omega) rfl, some_bind]
            dsimp only
            rw [hasL, some_bind, hG, if_pos rfl]
            rw [hG] at hw
            dsimp only
            have hw0 : IntKind.u64.wrap (sizeL a b P + 0) = IntKind.u64.wrap (b - a) := hw
            rw [if_pos hw0, if_pos (by rfl), lspans_is P (by omega), some_bind, if_pos rfl]
            rfl
        · have eG : lim G = ([], 5) := if_pos (by omega)
          rw [eP, eC, eG]
          rfl
      · have eC : lim C = ([], 5) := if_pos (by omega)
        rw [eP, eC]
        rfl
    · have eP : lim P = ([], 5) := if_pos (by omega)
      rw [eP]
      rfl
  · have hb : ∀ κ, spec_l2Do.f L a b κ = some ([], 1) := fun κ => do_bad κ L a b hp0 good
    unfold spec_SpanAdd.f spec_SpanCut.f spec_SpanGaps.f
    rw [hb 1, hb 2, hb 3, add_bad L a b hp0 good, cut_bad L a b hp0 good, gaps_bad L a b hp0 good]
    rfl
end Go.AK
