/- What is held, told by what lies where; the law's way over the events. Conditions: bounds. -/
import Derived.Test.YtlladicdmmdboaaPureFnReorder3
set_option linter.unusedSimpArgs false
set_option linter.unusedVariables false
namespace Go.AK
open Go
theorem cnt_rng (g : Int → Int) (n : Nat) : 0 ≤ cnt g n ∧ cnt g n ≤ n := by
  induction n with
  | zero => exact ⟨Int.le_refl _, Int.le_refl _⟩
  | succ n ih => rw [cnt]; split <;> omega
theorem ext_sem {m : Int} (h : List S122) (x : Int) (hok : okF m h) (ht : top m h ≤ x) (hm : m < x) : okF m (ext h x) ∧ top m (ext h x) = x + 1 ∧ (∀ q, In (ext h x) q ↔ In h q ∨ q = x) ∧ tot (ext h x) = tot h + 1 := by
  have fresh : top m h < x → okF m (h ++ [⟨x, x + 1⟩]) ∧ top m (h ++ [⟨x, x + 1⟩]) = x + 1 ∧ (∀ q, In (h ++ [(⟨x, x + 1⟩ : S122)]) q ↔ In h q ∨ q = x) ∧ tot (h ++ [⟨x, x + 1⟩]) = tot h + 1 := by
    intro hl
    refine ⟨okF_snoc.2 ⟨hok, hl, by show x < x + 1; omega⟩, top_snoc _ _ _, fun q => ?_, ?_⟩
    · rw [In_append, In_one]; refine or_congr Iff.rfl ?_; show x ≤ q ∧ q < x + 1 ↔ _; omega
    · rw [tot_append]; simp only [tot] <;> omega
  unfold ext
  obtain rfl | ⟨o, z, rfl⟩ := List.eq_nil_or_concat h
  · rw [if_neg (by simp)]; exact fresh (by simpa only [top] using hm)
  · rw [List.concat_eq_append] at *
    have el : ((o ++ [z]).length : Int) - 1 = o.length := by simp only [List.length_append, List.length_singleton]; omega
    have hz : rd z122 (o ++ [z]) (o.length : Int) = z := rd_snoc_eq rfl
    rw [el, hz]
    rw [top_snoc] at ht
    by_cases c : z.f1 = x
    · rw [if_pos ⟨by simp only [List.length_append, List.length_singleton]; omega, c⟩, Int.toNat_natCast]
      have es : (o ++ [z]).set o.length (⟨z.f0, x + 1⟩ : S122) = o ++ [⟨z.f0, x + 1⟩] := by simp
      have hk := okF_snoc.1 hok
      rw [es]
      refine ⟨okF_snoc.2 ⟨hk.1, hk.2.1, by show z.f0 < x + 1; omega⟩, top_snoc _ _ _, fun q => ?_, ?_⟩
      · rw [In_append, In_append, In_one, In_one]
        constructor
        · rintro (g | g)
          · exact .inl (.inl g)
          · simp only [] at g
            by_cases w : q = x
            · exact .inr w
            · exact .inl (.inr ⟨g.1, by omega⟩)
        · rintro ((g | g) | g)
          · exact .inl g
          · exact .inr ⟨g.1, by show q < x + 1; omega⟩
          · exact .inr ⟨by show z.f0 ≤ q; omega, by show q < x + 1; omega⟩
      · rw [tot_append, tot_append]; simp only [tot] <;> omega
    · rw [if_neg (fun h => c h.2)]
      exact fresh (by rw [top_snoc]; omega)
theorem hold_sem (g : Int → Int) (b : Int) (hb : 0 ≤ b) (k : Nat) : ∀ (h : List S122) (i : Int), 0 ≤ i → okF (-1) h → top (-1) h ≤ b + i →
    okF (-1) (hold g b h i k) ∧ (∀ q, In (hold g b h i k) q ↔ In h q ∨ ∃ p, i ≤ p ∧ p < i + k ∧ 0 ≤ g p ∧ q = b + p) ∧ tot (hold g b h i k) = tot h + (cnt g (i.toNat + k) - cnt g i.toNat) := by
  induction k with
  | zero =>
    intro h i h0 hok ht
    refine ⟨hok, fun q => ⟨.inl, fun o => o.elim id ?_⟩, by simp only [hold, Nat.add_zero]; omega⟩
    rintro ⟨p, h1, h2, _⟩; omega
  | succ k ih =>
    intro h i h0 hok ht
    have en : i.toNat + (k + 1) = (i + 1).toNat + k := by omega
    have ec : cnt g (i + 1).toNat = cnt g i.toNat + if 0 ≤ g i then 1 else 0 := by
      rw [show (i + 1).toNat = i.toNat + 1 by omega, cnt, show ((i.toNat : Nat) : Int) = i by omega]
    simp only [hold]
    rw [en]
    by_cases c : 0 ≤ g i
    · rw [if_pos c]
      rw [if_pos c] at ec
      obtain ⟨e1, e2, e3, e4⟩ := ext_sem h (b + i) hok ht (by omega)
      obtain ⟨r1, r2, r3⟩ := ih (ext h (b + i)) (i + 1) (by omega) e1 (by omega)
      refine ⟨r1, fun q => ?_, by omega⟩
      rw [r2, e3, or_assoc]
      refine or_congr Iff.rfl ⟨?_, ?_⟩
      · rintro (h | ⟨p, h1, h2, h3, h4⟩)
        · exact ⟨i, by omega, by omega, c, h⟩
        · exact ⟨p, by omega, by omega, h3, h4⟩
      · rintro ⟨p, h1, h2, h3, h4⟩
        by_cases w : p = i
        · exact .inl (by rw [h4, w])
        · exact .inr ⟨p, by omega, by omega, h3, h4⟩
    · rw [if_neg c]
      rw [if_neg c] at ec
      obtain ⟨r1, r2, r3⟩ := ih h (i + 1) (by omega) hok (by omega)
      refine ⟨r1, fun q => ?_, by omega⟩
      rw [r2]
      refine or_congr Iff.rfl ⟨?_, ?_⟩
      · rintro ⟨p, h1, h2, h3, h4⟩; exact ⟨p, by omega, by omega, h3, h4⟩
      · rintro ⟨p, h1, h2, h3, h4⟩
        by_cases w : p = i
        · exact absurd (w ▸ h3) c
        · exact ⟨p, by omega, by omega, h3, h4⟩
theorem sizeL_all (a b : Int) (L : List Span) (h : ∀ x ∈ L, a ≤ x.f0 ∧ x.f0 < x.f1 ∧ x.f1 ≤ b) : sizeL a b L = tot L := by
  induction L with
  | nil => rfl
  | cons x t ih =>
    have hx := h x (by simp)
    have e : part a b x = x.f1 - x.f0 := by unfold part; (repeat' split) <;> omega
    rw [sizeL, tot, e, ih (fun y hy => h y (by simp [hy]))]
/-- The stream's byte at a distance. -/
def SB (i : Int) : Int := IntKind.u8.wrap (IntKind.i64.wrap ((IntKind.i64.wrap (i * 7)) + (IntKind.i64.wrap (i.tdiv 11))))
theorem byte_is (i : Int) : spec_l5Byte.f i = some (SB i) := rfl
theorem stream_is (i : Int) : spec_StreamByte.f i = some (SB i) := rfl
/-- An event whose piece is the stream's. -/
structure HonE (b : Int) (x : S116) : Prop where
  ok : EvOk x
  put : x.f0 = 1 → x.f2 ≠ [] → b ≤ x.f1 ∧ x.f1 + x.f2.length ≤ 18446744073709551615 ∧ ∀ k : Int, 0 ≤ k → k < x.f2.length → rd 0 x.f2 k = SB (x.f1 - b + k)
theorem Tr5_fin {b c : Int} {M : Nat} : ∀ {t : List S116} {u : List S118} {s s' : St5}, Tr5 b c M t u s s' → s.e = true → s'.e = true ∧ s'.d = s.d
  | [], [], s, s', h, he => by have h : s = s' := h; subst h; exact ⟨he, rfl⟩
  | x :: t, o :: u, s, s', h, he => by
    obtain ⟨s1, h1, h2⟩ := h
    have a := h1.fin he
    have b := Tr5_fin h2 a.1
    exact ⟨b.1, b.2.trans a.2⟩
  | [], _ :: _, _, _, h, _ => h.elim
  | _ :: _, [], _, _, h, _ => h.elim
/-- What holds ahead of an event. -/
structure LI (b c : Int) (M : Nat) (s : St5) (kept : Int) (S : List Span) (i : Int) : Prop where
  tk : 0 ≤ s.tk ∧ s.tk ≤ 4096 * i
  got : Got c s.tk s.got
  full : ∀ p, 0 ≤ p → p < s.tk → 0 ≤ gat s.got p
  hon : ∀ p, 0 ≤ p → 0 ≤ gat s.got p → gat s.got p = SB p
  kept : kept = cnt (gat s.got) M
  sok : okF (-1) S
  sin : ∀ q, In S q ↔ b ≤ q ∧ 0 ≤ gat s.got (q - b)
  slen : (S.length : Int) ≤ i
theorem LI_put {b c : Int} {M : Nat} {s s' : St5} {kept : Int} {S : List Span} {i : Int} {x : S116} {o : S118} (h : LI b c M s kept S i) (hx : HonE b x) (hb : 0 ≤ b) (hc : c ≤ 4096) (k1 : x.f0 = 1) (hS : Sem b c M s x o s') (htk : s'.tk = s.tk) (hp : PutOk b c s.tk x.f1 x.f2 o.f1 M s.got s'.got) :
    LI b c M s' (kept + o.f1) (plusL x.f1 (x.f1 + x.f2.length) S) (i + 1) := by
  obtain ⟨p1, p2, p3, p4⟩ := hp
  obtain ⟨x1, x2, x3⟩ := hx.put k1 (by intro hn; rw [hn] at p1; simp at p1)
  have t1 := h.tk
  refine ⟨⟨by omega, by omega⟩, hS.got, fun p a b' => ?_, fun p a b' => ?_, by have := h.kept; omega, plusL_ok _ _ (by omega) S h.sok (by omega), fun q => ?_, by have := plusL_len x.f1 (x.f1 + x.f2.length) S; have := h.slen; omega⟩
  · rw [p4 p a, if_neg (by omega)]; exact h.full p a (by omega)
  · rw [p4 p a] at b' ⊢
    by_cases w : s.tk ≤ p ∧ x.f1 ≤ b + p ∧ b + p < x.f1 + x.f2.length ∧ gat s.got p < 0
    · rw [if_pos w, x3 _ (by omega) (by omega)]; congr 1; omega
    · rw [if_neg w] at b' ⊢; exact h.hon p a b'
  · rw [plusL_in _ _ (by omega) S h.sok, h.sin]
    constructor
    · rintro (g | g)
      · refine ⟨g.1, ?_⟩
        rw [p4 _ (by omega), if_neg (by omega)]; exact g.2
      · refine ⟨by omega, ?_⟩
        rw [p4 _ (by omega)]
        by_cases w : 0 ≤ gat s.got (q - b)
        · rw [if_neg (by omega)]; exact w
        · have : s.tk ≤ q - b := by
            rcases Int.lt_or_le (q - b) s.tk with z | z
            · exact absurd (h.full (q - b) (by omega) z) w
            · exact z
          rw [if_pos (by omega)]
          exact (hx.ok.byte _ (rd_mem (by omega) (by omega))).1
    · rintro ⟨g1, g2⟩
      rw [p4 _ (by omega)] at g2
      by_cases w : s.tk ≤ q - b ∧ x.f1 ≤ b + (q - b) ∧ b + (q - b) < x.f1 + x.f2.length ∧ gat s.got (q - b) < 0
      · exact .inr ⟨by omega, by omega⟩
      · rw [if_neg w] at g2; exact .inl ⟨g1, g2⟩
theorem LI_same {b c : Int} {M : Nat} {s s' : St5} {kept : Int} {S : List Span} {i : Int} (h : LI b c M s kept S i) (hg : s'.got = s.got) (h1 : s.tk ≤ s'.tk) (h2 : s'.tk ≤ s.tk + 4096) (hgot : Got c s'.tk s'.got) (hf : ∀ p, s.tk ≤ p → p < s'.tk → 0 ≤ gat s.got p) : LI b c M s' kept S (i + 1) := by
  obtain ⟨a1, a2, a3, a4, a5, a6, a7, a8⟩ := h
  refine ⟨⟨by omega, by omega⟩, hgot, fun p x y => ?_, by rw [hg]; exact a4, by rw [hg]; exact a5, a6, by rw [hg]; exact a7, by omega⟩
  rw [hg]
  by_cases w : p < s.tk
  · exact a3 p x w
  · exact hf p (by omega) y
theorem read_loop (b c kept i vr vn hf vf : Int) (evs : List S116) (us : List S118) (vh S : List S122) (o : S118) (tk : Int) (hi : 0 ≤ i ∧ i < us.length) (ho : rd z118 us i = o) (ht : 0 ≤ tk ∧ tk ≤ 1099511627776) (hl : o.f2.length ≤ 4096) (hr : ∀ k : Int, 0 ≤ k → k < o.f2.length → rd 0 o.f2 k = SB (tk + k)) (n : Nat) :
    ∀ k : Int, 0 ≤ k → k + n = o.f2.length → laws_FnReorder.l1 b c kept i evs us us vr vn vh hf vf S (tk + k) k = some (.a (tk + o.f2.length)) := by
  induction n with
  | zero =>
    intro k h0 h1
    rw [laws_FnReorder.l1, if_pos hi, ho, if_neg (by omega), show tk + k = tk + o.f2.length by omega]
  | succ n ih =>
    intro k h0 h1
    rw [laws_FnReorder.l1, if_pos hi, ho, if_pos (by omega), if_pos (by omega), stream_is, some_bind, hr k h0 (by omega), if_neg (fun h => h rfl), wi64_in (n := tk + k + 1) (by omega) (by omega), wi64_in (n := k + 1) (by omega) (by omega), Int.add_assoc]
    exact ih (k + 1) (by omega) (by omega)
theorem law_loop (l0 : List Int) (b c vr vn hf vf : Int) (evs : List S116) (us : List S118) (vh : List S122) (M : Nat) (sN : St5) (hb : 0 ≤ b ∧ b ≤ 4611686018427387904) (hc : c ≤ 4096) (hM2 : M ≤ 1000000000) (hlen : us.length = evs.length) (hev : evs.length ≤ 900)
    (hfin : sN.e = true → hf = 1 ∧ vf = sN.d) (t : List S116) : ∀ (u : List S118) (s : St5) (i kept : Int) (S : List Span), 0 ≤ i → i ≤ evs.length → evs.drop i.toNat = t → us.drop i.toNat = u → Tr5 b c M t u s sN → (∀ x ∈ t, HonE b x) → LI b c M s kept S i →
    ∃ S' kept', laws_FnReorder.l0 l0 b c evs us us vr vn vh hf vf s.tk kept i S = some (.a (sN.tk, kept', S')) ∧ LI b c M sN kept' S' evs.length := by
  induction t with
  | nil =>
    intro u s i kept S h0 h1 hd hu htr hh hli
    cases u with
    | cons _ _ => exact htr.elim
    | nil =>
      have htr : s = sN := htr
      have := suf_nil h0 hd
      rw [laws_FnReorder.l0, if_neg this, ← htr]
      have : i = evs.length := by omega
      exact ⟨_, _, rfl, this ▸ hli⟩
  | cons x t ih =>
    intro u s i kept S h0 h1 hd hu htr hh hli
    cases u with
    | nil => exact htr.elim
    | cons o u =>
      obtain ⟨s1, sem, tr⟩ := htr
      obtain ⟨q1, q2, q3⟩ := suf_cons h0 hd z116
      obtain ⟨w1, w2, w3⟩ := suf_cons h0 hu z118
      have hx := hh x (by simp)
      have hi : 0 ≤ i ∧ i < evs.length := ⟨h0, q1⟩
      have hi2 : 0 ≤ i ∧ i < us.length := ⟨h0, w1⟩
      have ht := hli.tk
      have hn : ∀ (kept' : Int) (S' : List Span), LI b c M s1 kept' S' (i + 1) → ∃ S'' kept'', laws_FnReorder.l0 l0 b c evs us us vr vn vh hf vf s1.tk kept' (i + 1) S' = some (.a (sN.tk, kept'', S'')) ∧ LI b c M sN kept'' S'' evs.length :=
        fun kept' S' hl => ih u s1 (i + 1) kept' S' (by omega) (by omega) q3 w3 tr (fun y hy => hh y (by simp [hy])) hl
      rw [laws_FnReorder.l0, if_pos q1, if_pos hi, if_pos hi2, if_pos hi2, w2, if_neg (fun h => h rfl), q2, wi64_in (n := i + 1) (by omega) (by omega)]
      by_cases k1 : x.f0 = 1
      · obtain ⟨htk, hp⟩ := sem.put k1
        have k2 : x.f0 ≠ 2 := by rw [k1]; decide
        rw [if_pos k1, some_bind]
        rcases hp with ⟨z, hg⟩ | ⟨z, hp⟩
        · rw [if_neg (by simpa using z), some_bind]
          dsimp only
          rw [if_pos k2, ← htk]
          exact hn _ _ (LI_same hli hg (by omega) (by omega) sem.got (fun p a b' => by omega))
        · have hli' := LI_put hli hx hb.1 hc k1 sem htk hp
          have hpn := hp.n
          have c1 := cnt_rng (gat s1.got) M
          have hkk := hli.kept
          have hl := hp.len
          obtain ⟨x1, x2, x3⟩ := hx.put k1 (by intro hn; rw [hn] at hl; simp at hl)
          have ha := hx.ok.at_
          have hsl := hli.slen
          have hpl := plusL_len x.f1 (x.f1 + x.f2.length) S
          have hadd := spAdd_is S x.f1 (x.f1 + x.f2.length) (fun y hy => by have := (okF_el hli.sok y hy).1; omega) (setok_is (by omega) hli.sok) (by omega)
          have el : lim (plusL x.f1 (x.f1 + x.f2.length) S) = (plusL x.f1 (x.f1 + x.f2.length) S, 0) := if_neg (by omega)
          rw [if_pos (decide_eq_true z), wu64_in (n := (x.f2.length : Int)) (by omega) (by omega), wu64_in (n := x.f1 + x.f2.length) (by omega) (by omega), hadd, el, some_bind, if_neg (by simp), some_bind]
          dsimp only
          rw [if_pos k2, wi64_in (n := kept + o.f1) (by omega) (by omega), ← htk]
          exact hn _ _ hli'
      · rw [if_neg k1, some_bind, if_neg nft, some_bind]
        dsimp only
        by_cases k2 : x.f0 = 2
        · obtain ⟨hg, htk, t0, t1, t2, t3⟩ := sem.take k2
          have hgl := hli.got.len
          have hgl2 := sem.got.len
          have hol : o.f1 ≤ 4096 := by
            rcases Int.lt_or_le o.f1 1 with z | z
            · omega
            · have := gat_pos (t2 (o.f1 - 1) (by omega) (by omega)).2
              omega
          have hrl := read_loop b c kept i vr vn hf vf evs us vh S o s.tk hi2 w2 (by omega) (by omega) (fun k a b' => by
            obtain ⟨g1, g2⟩ := t2 k a (by omega)
            rw [g1]; exact hli.hon _ (by omega) g2) o.f2.length 0 (by omega) (by omega)
          rw [Int.add_zero] at hrl
          have e1 : s.tk + (o.f2.length : Int) = s1.tk := by omega
          rw [e1] at hrl
          rw [if_neg (fun h => h k2), if_neg (by omega), some_bind, if_neg (by simp), hrl, some_bind]
          dsimp only
          have J : (if o.f0 = 15 then (if hf ≠ 1 then (some true) else (some (decide (vf ≠ IntKind.u64.wrap (b + (IntKind.u64.wrap s1.tk)))))) else (some false)) = some false := by
            by_cases z : o.f0 = 15
            · obtain ⟨z1, z2⟩ := t3 z
              have y1 := sem.fin z1
              have y2 := Tr5_fin tr y1.1
              obtain ⟨f1, f2⟩ := hfin y2.1
              rw [if_pos z, if_neg (by omega), wu64_in (n := s1.tk) (by omega) (by omega), wu64_in (n := b + s1.tk) (by omega) (by omega), decide_eq_false]
              rw [f2, y2.2, y1.2, z2]; simp
            · rw [if_neg z]
          rw [J, some_bind, if_neg nft]
          exact hn _ _ (LI_same hli hg (by omega) (by omega) sem.got (fun p a b' => by
            have := (t2 (p - s.tk) (by omega) (by omega)).2
            rwa [show s.tk + (p - s.tk) = p by omega] at this))
        · obtain ⟨hg, htk⟩ := sem.oth k1 k2
          rw [if_pos k2, ← htk]
          exact hn _ _ (LI_same hli hg (by omega) (by omega) sem.got (fun p a b' => by omega))
/-- The end of the law: what is held fits what was put and read. -/
theorem law_end (b c q : Int) (M : Nat) (s : St5) (kept n : Int) (S : List Span) (hb : 0 ≤ b ∧ b ≤ 4611686018427387904) (hc : 1 ≤ c ∧ c ≤ 900) (hM : 16400000 ≤ M) (hM2 : M ≤ 1000000000) (hn : n ≤ 900) (h : LI b c M s kept S n) (ht : s.tk ≤ 16384000)
    (q0 : s.tk ≤ q) (q1 : q ≤ s.tk + c) (q2 : ∀ p, s.tk ≤ p → p < q → 0 ≤ gat s.got p) (q3 : gat s.got q < 0) :
    impl_SpanCut.f S b (b + s.tk) = some (hold (gat s.got) b [] s.tk c.toNat, 0) ∧
    (∃ z, impl_SpanSize.f (hold (gat s.got) b [] s.tk c.toNat) (b + s.tk) (b + s.tk + c) = some (z, 0) ∧ 0 ≤ z ∧ z + s.tk = kept) ∧
    (∃ G, impl_SpanGaps.f (hold (gat s.got) b [] s.tk c.toNat) (b + s.tk) (b + s.tk + c + 1) = some (G, 0) ∧ 0 < G.length ∧ (rd z122 G 0).f0 = b + q) ∧ (hold (gat s.got) b [] s.tk c.toNat).length ≤ 900 := by
  obtain ⟨⟨t0, t1⟩, hgot, full, hon, hk, sok, sin, slen⟩ := h
  have hgl := hgot.len
  obtain ⟨r1, r2, r3⟩ := hold_sem (gat s.got) b hb.1 c.toNat [] s.tk t0 trivial (by simp only [top]; omega)
  have r4 := hold_len (gat s.got) b c.toNat [] s.tk
  generalize hold (gat s.got) b [] s.tk c.toNat = H at *
  simp only [List.length_nil] at r4
  have hin : ∀ x, In H x ↔ b + s.tk ≤ x ∧ 0 ≤ gat s.got (x - b) := by
    intro x
    rw [r2]
    constructor
    · rintro (h | ⟨p, h1, h2, h3, h4⟩)
      · exact (In_nil x h).elim
      · exact ⟨by omega, by rw [h4, show b + p - b = p by omega]; exact h3⟩
    · rintro ⟨h1, h2⟩
      have := gat_pos h2
      exact .inr ⟨x - b, by omega, by omega, h2, by omega⟩
  have hHp : ∀ x ∈ H, 0 ≤ x.f0 := fun x hx => by have := (okF_el r1 x hx).1; omega
  have hSp : ∀ x ∈ S, 0 ≤ x.f0 := fun x hx => by have := (okF_el sok x hx).1; omega
  have hHs : setok H = true := setok_is (by omega) r1
  have hHe : ∀ x ∈ H, b + s.tk ≤ x.f0 ∧ x.f0 < x.f1 ∧ x.f1 ≤ b + s.tk + c := by
    intro x hx
    have he := okF_el r1 x hx
    have a1 := (hin x.f0).1 ⟨x, hx, by omega, by omega⟩
    have a2 := (hin (x.f1 - 1)).1 ⟨x, hx, by omega, by omega⟩
    have a3 := gat_pos a2.2
    exact ⟨a1.1, he.2, by omega⟩
  have hcutl := cutL_len b (b + s.tk) S sok
  have ecut : cutL b (b + s.tk) S = H := canon (cutL_ok b (b + s.tk) (by omega) S sok) r1 (fun x => by
    rw [cutL_in b (b + s.tk) (by omega), sin, hin]
    constructor
    · rintro ⟨⟨h1, h2⟩, h3⟩; exact ⟨by omega, h2⟩
    · rintro ⟨h1, h2⟩; exact ⟨⟨by omega, h2⟩, by omega⟩)
  refine ⟨?_, ?_, ?_, by omega⟩
  · rw [cut_is S b (b + s.tk) hSp (setok_is (by omega) sok) (by omega), ecut, lim, if_neg (by omega)]
  · have e1 := sizeL_all (b + s.tk) (b + s.tk + c) H hHe
    have c1 := cnt_full (g := gat s.got) s.tk.toNat (fun p a b' => full p a (by omega))
    have c2 : cnt (gat s.got) M = cnt (gat s.got) (s.tk.toNat + c.toNat) := by
      have := cnt_over (g := gat s.got) (s.tk.toNat + c.toNat) (M - (s.tk.toNat + c.toNat)) (fun p hp => by
        rcases Int.lt_or_le (gat s.got p) 0 with z | z
        · exact z
        · have := gat_pos z; omega)
      rw [show s.tk.toNat + c.toNat + (M - (s.tk.toNat + c.toNat)) = M by omega] at this
      exact this
    have c3 := cnt_rng (gat s.got) M
    have c4 := tot_nonneg r1
    simp only [tot] at r3
    refine ⟨_, size_is H (b + s.tk) (b + s.tk + c) hHp hHs (by omega) (by omega), by omega, by omega⟩
  · have g1 := gapsL_ok (m0 := -1) (b + s.tk + c + 1) H (b + s.tk) r1 (by omega)
    have g2 := fun x => gapsL_in (b + s.tk + c + 1) H x (b + s.tk) r1
    have g3 := gapsL_len (b + s.tk + c + 1) H (b + s.tk)
    have g4 := gaps_is H (b + s.tk) (b + s.tk + c + 1) hHp hHs (by omega)
    generalize gapsL (b + s.tk + c + 1) (b + s.tk) H = G at *
    have hq : In G (b + q) := (g2 _).2 ⟨by omega, by omega, fun h => by have := ((hin _).1 h).2; rw [show b + q - b = q by omega] at this; omega⟩
    rw [lim, if_neg (by omega)] at g4
    refine ⟨G, g4, ?_⟩
    cases hG : G with
    | nil => rw [hG] at hq; exact (In_nil _ hq).elim
    | cons y t =>
      rw [hG] at hq g1
      refine ⟨by simp, ?_⟩
      show y.f0 = b + q
      obtain ⟨k1, k2, k3⟩ := g1
      have a1 := (g2 y.f0).1 (by rw [hG]; exact (In_cons _ _ _).2 (.inl ⟨Int.le_refl _, k2⟩))
      have a2 : b + q ≤ y.f0 := by
        rcases Int.lt_or_le y.f0 (b + q) with z | z
        · exact absurd ((hin _).2 ⟨a1.1, q2 _ (by omega) (by omega)⟩) a1.2.2
        · exact z
      rcases (In_cons _ _ _).1 hq with z | z
      · omega
      · have := okF_gt k3 z; omega
end Go.AK
