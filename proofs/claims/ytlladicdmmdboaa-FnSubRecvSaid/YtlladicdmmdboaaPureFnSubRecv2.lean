/- What is drawn: a sender and its events. Conditions: bounds. -/
import Derived.Test.YtlladicdmmdboaaPureFnSubRecv1
set_option linter.unusedSimpArgs false
set_option linter.unusedVariables false
namespace Go.AK
open Go
theorem step_spec {I W R MR DA PE n : Int} {S : List Int} {d tm rto cnt pr : Int} {dead : Bool} {base : Int} {T : List Int} (hc : Cfg I W R MR DA PE) (hr : Rel I W n S d tm rto cnt pr dead base T) (hn : n < 1000000) (kd tag seq : Int) (hq : 0 ≤ seq ∧ seq < 4294967296) :
    ∃ code fr ac di re S' d' tm' rto' cnt' pr' dead' base' T', spec_l4Step.f I W R MR DA PE S d tm rto cnt pr dead kd tag seq = some (code, fr, ac, di, re, S', d', tm', rto', cnt', pr', dead') ∧ Rel I W (n + 1) S' d' tm' rto' cnt' pr' dead' base' T' := by
  unfold spec_l4Step.f
  by_cases k1 : kd = 1
  · obtain ⟨code, fr, S', T', tm', r1, r2, r3, r4, _⟩ := send_both hc hr hn tag
    rw [if_pos k1, r1, some_bind]
    exact ⟨_, _, _, _, _, _, _, _, _, _, _, _, _, _, rfl, r4⟩
  · by_cases k2 : kd = 2
    · obtain ⟨code, fr, ac, re, base', T', d', tm', rto', cnt', pr', dead', r1, r2, r3, r4, r5, _⟩ := ack_both hc hr hn seq hq
      rw [if_neg k1, if_pos k2, r1, some_bind]
      exact ⟨_, _, _, _, _, _, _, _, _, _, _, _, _, _, rfl, r5⟩
    · by_cases k3 : kd = 3
      · obtain ⟨fr, di, tm', rto', cnt', pr', dead', r1, r2, r3, r4, _⟩ := tick_both hc hr hn
        rw [if_neg k1, if_neg k2, if_pos k3, r1, some_bind]
        exact ⟨_, _, _, _, _, _, _, _, _, _, _, _, _, _, rfl, r4⟩
      · rw [if_neg k1, if_neg k2, if_neg k3]
        exact ⟨_, _, _, _, _, _, _, _, _, _, _, _, _, _, rfl, { hr with n_ := by have := hr.n_; omega, cnt_ := by have := hr.cnt_; omega }⟩
theorem Rel.start {I W R MR DA PE : Int} (hc : Cfg I W R MR DA PE) : Rel I W 0 [] 0 0 R 0 0 false I [] where
  d0 := by omega
  d1 := by simp
  n_ := by simp
  t := by simp
  w := by have := hc.w; simp; omega
  b := by have := hc.i; omega
  tm_ := by omega
  rto_ := by have := hc.r; omega
  cnt_ := by omega
  pr_ := by omega
  dd := fun h => by cases h
def EvOk (evs : List S63) : Prop := ∀ x ∈ evs, 0 ≤ x.f2 ∧ x.f2 < 4294967296
theorem events_loop {I W R MR DA PE : Int} (hc : Cfg I W R MR DA PE) (l : List Int) (hl : l.length ≤ 1048576) (N way c1 c2 c3 c4 c5 c6 : Int) (hN : N ≤ 600000) (m : Nat) :
    ∀ (i p st : Int) (evs : List S63) (S : List Int) (d tm rto cnt pr : Int) (dead : Bool) (base : Int) (T : List Int), N - i ≤ m → 0 ≤ i → DSrc l p st → (evs.length : Int) ≤ i → Rel I W i S d tm rto cnt pr dead base T → EvOk evs →
    ∃ p' st' evs', spec_l4DrawEvents.l0 l N way c1 c2 c3 c4 c5 c6 I W R MR DA PE i p st evs S d tm rto cnt pr dead = some (p', st', evs') ∧ DSrc l p' st' ∧ EvOk evs' := by
  induction m with
  | zero =>
    intro i p st evs S d tm rto cnt pr dead base T h0 h1 hs he hr hv
    rw [spec_l4DrawEvents.l0, if_neg (by omega)]
    exact ⟨_, _, _, rfl, hs, hv⟩
  | succ m ih =>
    intro i p st evs S d tm rto cnt pr dead base T h0 h1 hs he hr hv
    rw [spec_l4DrawEvents.l0]
    by_cases c : i < N
    · have hlen := hr.len
      have hw := hr.w
      have hW := hc.w
      have hd0 := hr.d0
      have hd1 := hr.d1
      obtain ⟨v1, p1, s1, e1, g1, a1, b1, _⟩ := next_ok hs hl 100 (by omega)
      have b1 := b1 (by omega)
      rw [if_pos c, e1, some_bind]
      have J1 : ∃ k : Int, ((if way = 1 then (some (IntKind.i64.wrap (30 + (IntKind.i64.wrap ((IntKind.i64.wrap (v1 * 7)).tdiv 10))))) else (some v1)) : Option Int) = some k := by
        split <;> exact ⟨_, rfl⟩
      obtain ⟨k, e2⟩ := J1
      simp only [e2, some_bind]
      have J2 : ∃ p2 s2 kd tg sq, (((if k ≥ 45 then (some (decide (k < 60))) else (some false)) >>= fun (j38 : Bool) => (if j38 = true then (spec_l4Out.f I W R MR DA PE S d tm rto cnt pr dead >>= fun t47 => (spec_l1Next.f l p1 s1 (IntKind.i64.wrap (t47 + 1)) >>= fun t50 => (spec_l1Next.f l t50.2.1 t50.2.2 4 >>= fun t58 => (if t58.1 = 0 then (spec_l1Next.f l t58.2.1 t58.2.2 8 >>= fun t62 => (some (t62.2.1, t62.2.2, 2, 0, IntKind.u32.wrap ((IntKind.u32.wrap ((IntKind.u32.wrap (c1 + (IntKind.u32.wrap d))) - 2)) + (IntKind.u32.wrap t62.1))))) else (some (t58.2.1, t58.2.2, 2, 0, IntKind.u32.wrap ((IntKind.u32.wrap (c1 + (IntKind.u32.wrap d))) + (IntKind.u32.wrap t50.1)))))))) else (if k ≥ 60 then (some (p1, s1, 3, 0, 0)) else (some (p1, s1, 1, IntKind.i64.wrap (i + 10), 0))))) : Option (Int × Int × Int × Int × Int)) = some (p2, s2, kd, tg, sq) ∧ DSrc l p2 s2 ∧ 0 ≤ sq ∧ sq < 4294967296 := by
        have JB : ∃ b : Bool, ((if k ≥ 45 then (some (decide (k < 60))) else (some false)) : Option Bool) = some b := by split <;> exact ⟨_, rfl⟩
        obtain ⟨b, eb⟩ := JB
        rw [eb, some_bind]
        cases b with
        | true =>
          unfold spec_l4Out.f
          rw [if_pos rfl, some_bind]
          have hb1 : IntKind.i64.wrap (IntKind.i64.wrap ((S.length : Int) - d) + 1) = (T.length : Int) + 1 := by
            rw [wi64_in (n := (S.length : Int) - d) (by have := hr.n_; omega) (by have := hr.n_; omega), wi64_in (by omega) (by omega)]; omega
          obtain ⟨v3, p3, s3, e3, g3, a3, b3, _⟩ := next_ok g1 hl (IntKind.i64.wrap (IntKind.i64.wrap ((S.length : Int) - d) + 1)) (by omega)
          obtain ⟨v4, p4, s4, e4, g4, a4, b4, _⟩ := next_ok g3 hl 4 (by omega)
          rw [e3, some_bind]
          simp only [e4, some_bind]
          by_cases c5 : v4 = 0
          · obtain ⟨v5, p5, s5, e5, g5, a5, b5, _⟩ := next_ok g4 hl 8 (by omega)
            rw [if_pos c5, e5, some_bind]
            exact ⟨_, _, _, _, _, rfl, g5, wu32_rng _⟩
          · rw [if_neg c5]
            exact ⟨_, _, _, _, _, rfl, g4, wu32_rng _⟩
        | false =>
          rw [if_neg nft]
          split
          · exact ⟨_, _, _, _, _, rfl, g1, by omega, by omega⟩
          · exact ⟨_, _, _, _, _, rfl, g1, by omega, by omega⟩
      obtain ⟨p2, s2, kd, tg, sq, e3, g2, hsq⟩ := J2
      simp only [e3, some_bind]
      have J3 : ∃ p4 s4 kd', ((spec_l1Next.f l p2 s2 60 >>= fun t73 => (if t73.1 = 0 then (spec_l1Next.f l t73.2.1 t73.2.2 2 >>= fun t77 => (some (t77.2.1, t77.2.2, IntKind.i64.wrap (4 * t77.1)))) else (some (t73.2.1, t73.2.2, kd)))) : Option (Int × Int × Int)) = some (p4, s4, kd') ∧ DSrc l p4 s4 := by
        obtain ⟨v3, p3, s3, e3, g3, a3, b3, _⟩ := next_ok g2 hl 60 (by omega)
        rw [e3, some_bind]
        by_cases c5 : v3 = 0
        · obtain ⟨v5, p5, s5, e5, g5, a5, b5, _⟩ := next_ok g3 hl 2 (by omega)
          rw [if_pos c5, e5, some_bind]
          exact ⟨_, _, _, rfl, g5⟩
        · rw [if_neg c5]; exact ⟨_, _, _, rfl, g3⟩
      obtain ⟨p4, s4, kd', e4, g4⟩ := J3
      simp only [e4, some_bind]
      obtain ⟨code, fr, ac, di, re, S', d', tm', rto', cnt', pr', dead', base', T', r1, r2⟩ := step_spec hc hr (by omega) kd' tg sq hsq
      rw [r1, some_bind, if_pos (by omega), wi64_in (n := i + 1) (by omega) (by omega)]
      refine ih (i + 1) _ _ _ _ _ _ _ _ _ _ base' T' (by omega) (by omega) g4 (by simp; omega) r2 (fun x hx => ?_)
      rcases List.mem_append.1 hx with h | h
      · exact hv x h
      · rw [List.mem_singleton.1 h]; exact hsq
    · rw [if_neg c]; exact ⟨_, _, _, rfl, hs, hv⟩
theorem events_ok {I W R MR DA PE : Int} (hc : Cfg I W R MR DA PE) (l : List Int) (hl : l.length ≤ 1048576) (N p st : Int) (hN : N ≤ 600000) (h : DSrc l p st) : ∃ evs p' st', spec_l4DrawEvents.f l p st I W R MR DA PE N = some (evs, p', st') ∧ DSrc l p' st' ∧ EvOk evs := by
  unfold spec_l4DrawEvents.f spec_l4Begin.f
  obtain ⟨v1, p1, s1, e1, g1, a1, b1, _⟩ := next_ok h hl 3 (by omega)
  simp only [some_bind, e1]
  obtain ⟨p', st', evs, r1, r2⟩ := events_loop hc l hl N v1 I W R MR DA PE hN N.toNat 0 p1 s1 [] [] 0 0 R 0 0 false I [] (by omega) (by omega) g1 (by simp) (Rel.start hc) (fun x hx => by cases hx)
  rw [r1, some_bind]
  exact ⟨_, _, _, rfl, r2⟩
/-- Of what is drawn only this matters here: the first number is one of 32 bits, and no number is out of its kind. -/
structure Drawn (I W R MR DA PE : Int) : Prop where
  i : 0 ≤ I ∧ I < 4294967296
  w : -10 ≤ W ∧ W ≤ 1000
  r : -10 ≤ R ∧ R ≤ 1000
  m : -10 ≤ MR ∧ MR ≤ 1000
  a : -10 ≤ DA ∧ DA ≤ 1000
  p : -10 ≤ PE ∧ PE ≤ 1000
theorem draw_ok (l : List Int) (hl : l.length ≤ 1048576) : ∃ I W R MR DA PE evs, spec_DrawSubRun.f l = some (I, W, R, MR, DA, PE, evs) ∧ Drawn I W R MR DA PE ∧ EvOk evs := by
  unfold spec_DrawSubRun.f
  obtain ⟨p, st, e1, g1⟩ := begin_ok l hl
  obtain ⟨I, W, R, MR, DA, PE, p2, s2, e2, hc, g2⟩ := config_ok g1 hl
  have hw : IntKind.i64.wrap (40 + IntKind.i64.wrap ((l.length : Int).tdiv 2)) = 40 + (l.length : Int) / 2 := by
    rw [Int.tdiv_eq_ediv_of_nonneg (by omega), wi64_in (n := (l.length : Int) / 2) (by omega) (by omega), wi64_in (by omega) (by omega)]
  obtain ⟨v3, p3, s3, e3, g3, a3, b3, _⟩ := next_ok g2 hl (40 + (l.length : Int) / 2) (by omega)
  have b3 := b3 (by omega)
  obtain ⟨v4, p4, s4, e4, g4, a4, b4, _⟩ := next_ok g3 hl 30 (by omega)
  simp only [e1, e2, hw, e3, e4, some_bind]
  have J : ∃ N p5 s5, ((if v4 = 0 then (spec_l1Next.f l p4 s4 2 >>= fun t24 => (some (IntKind.i64.wrap (4000 + t24.1), t24.2.1, t24.2.2))) else (some (IntKind.i64.wrap (10 + v3), p4, s4))) : Option (Int × Int × Int)) = some (N, p5, s5) ∧ N ≤ 600000 ∧ DSrc l p5 s5 := by
    split
    · obtain ⟨v5, p5, s5, e5, g5, a5, b5, _⟩ := next_ok g4 hl 2 (by omega)
      have b5 := b5 (by omega)
      rw [e5, some_bind]; exact ⟨_, _, _, rfl, by rw [wi64_in (by omega) (by omega)]; omega, g5⟩
    · exact ⟨_, _, _, rfl, by rw [wi64_in (by omega) (by omega)]; omega, g4⟩
  obtain ⟨N, p5, s5, e5, hN, g5⟩ := J
  obtain ⟨evs, p6, s6, e6, g6, ge⟩ := events_ok hc l hl N p5 s5 hN g5
  simp only [e5, e6, some_bind]
  have c1 := hc.i
  have c2 := hc.w
  have c3 := hc.r
  have c4 := hc.m
  have c5 := hc.a
  have c6 := hc.p
  have hw2 : IntKind.i64.wrap (R - 1) = R - 1 := wi64_in (by omega) (by omega)
  rw [hw2]
  repeat' split
  all_goals exact ⟨_, _, _, _, _, _, _, rfl, ⟨by omega, by dsimp only; omega, by dsimp only; omega, by dsimp only; omega, by dsimp only; omega, by dsimp only; omega⟩, ge⟩
end Go.AK
