/- Sender of a path: the sender of a path does what the reference does, event by event. Conditions: bounds. -/
import Derived.Test.YtlladicdmmdboaaPureFnSubRecv0
set_option linter.unusedSimpArgs false
set_option linter.unusedVariables false
namespace Go.AK
open Go
structure Rel (I W : Int) (n : Int) (S : List Int) (d tm rto cnt pr : Int) (dead : Bool) (base : Int) (T : List Int) : Prop where
  d0 : 0 ≤ d
  d1 : d ≤ S.length
  n_ : S.length ≤ n
  t : T = S.drop d.toNat
  w : T.length ≤ W
  b : base = (I + d) % 4294967296
  tm_ : 0 ≤ tm ∧ tm ≤ 400
  rto_ : 1 ≤ rto ∧ rto ≤ 400
  cnt_ : 0 ≤ cnt ∧ cnt ≤ n
  pr_ : 0 ≤ pr ∧ pr ≤ 50
  dd : dead = true → 1 ≤ pr
theorem Rel.len {I W n : Int} {S : List Int} {d tm rto cnt pr : Int} {dead : Bool} {base : Int} {T : List Int} (h : Rel I W n S d tm rto cnt pr dead base T) : (T.length : Int) = S.length - d := by
  rw [h.t, List.length_drop]; have := h.d0; have := h.d1; omega
/-- all that is outstanding, once more -/
def agL (q : Int) : List Int → List S68
  | [] => []
  | x :: t => ⟨2, q % 4294967296, x⟩ :: agL (q + 1) t
theorem agL_len (q : Int) (l : List Int) : (agL q l).length = l.length := by
  induction l generalizing q with
  | nil => rfl
  | cons x t ih => simp [agL, ih]
theorem agL_mod (l : List Int) : ∀ {q r : Int}, q % 4294967296 = r % 4294967296 → agL q l = agL r l := by
  induction l with
  | nil => intro q r h; rfl
  | cons x t ih => intro q r h; unfold agL; rw [h, ih (show (q + 1) % 4294967296 = (r + 1) % 4294967296 by omega)]
def AgP (I : Int) (S : List Int) (f : S68) : Prop := f.f0 ≠ 1 ∧ (f.f0 ≠ 3 → ∃ j : Nat, j < S.length ∧ f.f1 = (I + j) % 4294967296 ∧ f.f2 = S.getD j 0)
def FrOk (I : Int) (S S1 : List Int) (fr : List S68) : Prop := (S1 = S ∧ ∀ f ∈ fr, AgP I S f) ∨ ∃ tag, S1 = S ++ [tag] ∧ fr = [⟨1, (I + S.length) % 4294967296, tag⟩]
/-- What an event does to what was sent, and what comes of it. -/
structure StepOk (I : Int) (S : List Int) (d : Int) (fr : List S68) (ac : List Int) (S1 : List Int) (d1 : Int) : Prop where
  fr_ : FrOk I S S1 fr
  ac_ : ∃ k : Nat, d1 = d + k ∧ ac = (S1.drop d.toNat).take k
  l1 : fr.length ≤ 16
  l2 : ac.length ≤ 16
  le : d1 ≤ S1.length
theorem agL_ok (I : Int) (S : List Int) (T : List Int) : ∀ (d : Nat), T = S.drop d → ∀ f ∈ agL (I + d) T, AgP I S f := by
  induction T with
  | nil => intro d _ f hf; simp [agL] at hf
  | cons x t ih =>
    intro d hd f hf
    unfold agL at hf
    rcases List.mem_cons.1 hf with h | h
    · subst h
      refine ⟨by simp, fun _ => ⟨d, ?_, rfl, ?_⟩⟩
      · have := congrArg List.length hd; rw [List.length_drop] at this; simp at this; omega
      · have : (S.drop d)[0]? = some x := by rw [← hd]; rfl
        rw [List.getElem?_drop, Nat.add_zero] at this
        simp [List.getD, this]
    · refine ih (d + 1) ?_ f (by rwa [show I + ((d + 1 : Nat) : Int) = I + d + 1 by omega])
      have : (S.drop d).drop 1 = t := by rw [← hd]; rfl
      rw [List.drop_drop] at this; exact this.symm
theorem agI_ok {I d : Int} {S T : List Int} (h0 : 0 ≤ d) (h : T = S.drop d.toNat) : ∀ f ∈ agL (I + d) T, AgP I S f := by
  have := agL_ok I S T d.toNat h
  rwa [show ((d.toNat : Nat) : Int) = d by omega] at this
/-- What an acknowledgement does. -/
def AckOut (k : Int) (T : List Int) (code : Int) (ac : List Int) (d d' : Int) (T' : List Int) : Prop := (k > T.length ∧ code = 11 ∧ d' = d) ∨ (k ≤ T.length ∧ code = 0 ∧ d' = d + k ∧ ac = T.take k.toNat ∧ T' = T.drop k.toNat)
section
variable {I W R MR DA PE : Int}
theorem again_spec_loop (u1 u2 u3 u4 u5 u8 u9 u10 u11 u12 : Int) (u13 : Bool) (S s : List Int) (hS : S.length ≤ 1000001) : ∀ (i : Int) (out : List S68), 0 ≤ i → i ≤ S.length → S.drop i.toNat = s → out.length ≤ i →
    spec_l4Again.l0 I u1 u2 u3 u4 u5 S u8 u9 u10 u11 u12 u13 i out = some (out ++ agL (I + i) s) := by
  induction s with
  | nil => intro i out h0 h1 hd ho; rw [spec_l4Again.l0, if_neg (suf_nil h0 hd)]; simp [agL]
  | cons e t ih =>
    intro i out h0 h1 hd ho
    obtain ⟨q1, q2, q3⟩ := suf_cons h0 hd 0
    rw [spec_l4Again.l0, if_pos q1, if_pos ⟨h0, q1⟩, if_pos (by omega), q2, wi64_in (by omega) (by omega), ih (i + 1) _ (by omega) (by omega) q3 (by simp; omega)]
    rw [show agL (I + i) (e :: t) = ⟨2, (I + i) % 4294967296, e⟩ :: agL (I + i + 1) t from rfl, wu32, wu32, show (I + i % 4294967296) % 4294967296 = (I + i) % 4294967296 by omega, Int.add_assoc]
    simp
theorem again_spec (S T : List Int) (d u9 u10 u11 u12 : Int) (u13 : Bool) (hS : S.length ≤ 1000000) (h0 : 0 ≤ d) (h1 : d ≤ S.length) (hT : T = S.drop d.toNat) : spec_l4Again.f I W R MR DA PE S d u9 u10 u11 u12 u13 = some (agL (I + d) T) := by
  unfold spec_l4Again.f
  rw [again_spec_loop _ _ _ _ _ _ _ _ _ _ _ S T (by omega) d [] h0 h1 hT.symm (by simpa using h0), some_bind]; simp
theorem again_impl_loop (u1 u2 u3 u4 u5 u6 b u10 u11 u12 u13 : Int) (u14 : Bool) (T s : List Int) (hT : T.length ≤ 1000000) : ∀ (i : Int) (out : List S68), 0 ≤ i → i ≤ T.length → T.drop i.toNat = s → out.length ≤ i →
    impl_sender_again.l0 (T.length : Int) u1 u2 u3 u4 u5 u6 b T u10 u11 u12 u13 u14 i out = some (out ++ agL (b + i) s) := by
  induction s with
  | nil => intro i out h0 h1 hd ho; rw [impl_sender_again.l0, if_neg (suf_nil h0 hd)]; simp [agL]
  | cons e t ih =>
    intro i out h0 h1 hd ho
    obtain ⟨q1, q2, q3⟩ := suf_cons h0 hd 0
    rw [impl_sender_again.l0, if_pos q1, if_pos ⟨h0, q1⟩, if_pos (by omega), q2, wi64_in (by omega) (by omega), ih (i + 1) _ (by omega) (by omega) q3 (by simp; omega)]
    rw [show agL (b + i) (e :: t) = ⟨2, (b + i) % 4294967296, e⟩ :: agL (b + i + 1) t from rfl, wu32, wu32, show (b + i % 4294967296) % 4294967296 = (b + i) % 4294967296 by omega, Int.add_assoc]
    simp
theorem again_impl (T : List Int) (b u10 u11 u12 u13 : Int) (u14 : Bool) (hT : T.length ≤ 1000000) : impl_sender_again.f I W R MR DA PE b T u10 u11 u12 u13 u14 = some (agL b T) := by
  unfold impl_sender_again.f
  rw [again_impl_loop _ _ _ _ _ _ _ _ _ _ _ _ T T hT 0 [] (by omega) (by omega) rfl (by simp), some_bind]; simp
/-- the clock set back -/
theorem clock_spec (S : List Int) (d u9 u10 u11 pr : Int) (dead : Bool) (hS : S.length ≤ 1000000) (h0 : 0 ≤ d) (h1 : d ≤ S.length) : spec_l4Clock.f I W R MR DA PE S d u9 u10 u11 pr dead = some (if S.length - d > 0 then R else 0, R, 0) := by
  unfold spec_l4Clock.f spec_l4Out.f
  rw [some_bind, wi64_in (by omega) (by omega)]
  by_cases c : (S.length : Int) - d > 0
  · rw [if_pos c, if_pos c]
  · rw [if_neg c, if_neg c]
theorem calm_impl (T : List Int) (b u9 u10 u11 pr : Int) (dead : Bool) : impl_sender_calm.f I W R MR DA PE b T u9 u10 u11 pr dead = some (if (T.length : Int) > 0 then R else 0, R, 0) := by
  unfold impl_sender_calm.f
  by_cases c : (T.length : Int) > 0
  · rw [if_pos c, if_pos c]
  · rw [if_neg c, if_neg c]
variable {n : Int} {S : List Int} {d tm rto cnt pr : Int} {dead : Bool} {base : Int} {T : List Int}
theorem send_both (hc : Cfg I W R MR DA PE) (h : Rel I W n S d tm rto cnt pr dead base T) (hn : n < 1000000) (tag : Int) :
    ∃ code fr S' T' tm', spec_l4Send.f I W R MR DA PE S d tm rto cnt pr dead tag = some (code, fr, [], 0, 0, S', tm') ∧ impl_sendTag_happen.f tag I W R MR DA PE base T tm rto cnt pr dead = some (code, fr, [], 0, 0, T', tm') ∧
      fr.length ≤ 16 ∧ Rel I W (n + 1) S' d tm' rto cnt pr dead base T' ∧ StepOk I S d fr [] S' d := by
  have hl := h.len
  have h0 := h.d0
  have h1 := h.d1
  have hN := h.n_
  have keep : Rel I W (n + 1) S d tm rto cnt pr dead base T := { h with n_ := by omega, cnt_ := by have := h.cnt_; omega }
  have none_ : StepOk I S d [] [] S d := ⟨.inl ⟨rfl, fun f hf => by cases hf⟩, ⟨0, by omega, by simp⟩, by simp, by simp, by omega⟩
  unfold spec_l4Send.f impl_sendTag_happen.f
  by_cases c : dead = true
  · rw [if_pos c, if_pos c]; exact ⟨_, _, _, _, _, rfl, rfl, by simp, keep, none_⟩
  · rw [if_neg c, if_neg c]
    unfold spec_l4Out.f impl_sender_next.f
    rw [some_bind, some_bind, some_bind, wi64_in (n := (S.length : Int) - d) (by omega) (by omega), ← hl]
    by_cases c2 : (T.length : Int) ≥ W
    · rw [if_pos c2, if_pos c2]; exact ⟨_, _, _, _, _, rfl, rfl, by simp, keep, none_⟩
    · have hW := hc.w
      have hlim : (S.length + 1) * 8 ≤ 140737488355328 := by omega
      have hlim' : (T.length + 1) * 8 ≤ 140737488355328 := by omega
      have J : ((if tm = 0 then some rto else some tm) : Option Int) = some (if tm = 0 then rto else tm) := by split <;> rfl
      rw [if_neg c2, if_neg c2, if_pos hlim, if_pos hlim', J, some_bind, some_bind]
      have hseq : IntKind.u32.wrap (base + IntKind.u32.wrap (T.length : Int)) = IntKind.u32.wrap (I + IntKind.u32.wrap (S.length : Int)) := by
        rw [wu32, wu32, wu32, wu32, h.b]; omega
      rw [hseq]
      refine ⟨_, _, _, _, _, rfl, rfl, by simp, ?_, ⟨.inr ⟨tag, rfl, by rw [wu32, wu32, show (I + (S.length : Int) % 4294967296) % 4294967296 = (I + S.length) % 4294967296 by omega]⟩, ⟨0, by omega, by simp⟩, by simp, by simp, by simp; omega⟩⟩
      have htm := h.tm_
      have hr := h.rto_
      exact { h with
        d1 := by simp; omega
        n_ := by simp; omega
        t := by rw [h.t, List.drop_append_of_le_length (by omega)]
        w := by simp; omega
        cnt_ := by have := h.cnt_; omega
        tm_ := by split <;> omega }
theorem find_loop (u4 u5 u6 u7 u8 u10 u11 u12 u13 u14 u16 u19 u20 : Int) (u15 : Bool) (u17 : List S68) (u18 : List Int) (seq k : Int) (S : List Int) (d : Int) (h0 : 0 ≤ d) (hS : S.length ≤ 1000001) (hw : (S.length : Int) - d ≤ 16) (hq : 0 ≤ seq ∧ seq < 4294967296)
    (hk : k = (seq - (I + d) % 4294967296) % 4294967296) (m : Nat) : ∀ (i cur : Int), (S.length : Int) + 1 - i = m → d ≤ i →
    spec_l4Ack.l0 seq I u4 u5 u6 u7 u8 S u10 u11 u12 u13 u14 u15 u16 u17 u18 u19 u20 cur i = some (if i ≤ d + k ∧ d + k ≤ S.length then d + k else cur) := by
  induction m with
  | zero =>
    intro i cur hi hd
    rw [spec_l4Ack.l0, if_neg (by omega), if_neg (by omega)]
  | succ m ih =>
    intro i cur hi hd
    rw [spec_l4Ack.l0, if_pos (by omega), wu32, wu32, show (I + i % 4294967296) % 4294967296 = (I + i) % 4294967296 by omega, wi64_in (by omega) (by omega)]
    by_cases c : (I + i) % 4294967296 = seq
    · have : i = d + k := by omega
      rw [if_pos c, some_bind, ih (i + 1) i (by omega) (by omega), if_neg (by omega), if_pos (by omega), this]
    · have : i ≠ d + k := by omega
      rw [if_neg c, some_bind, ih (i + 1) cur (by omega) (by omega)]
      by_cases c2 : i ≤ d + k ∧ d + k ≤ S.length
      · rw [if_pos c2, if_pos (by omega)]
      · rw [if_neg c2, if_neg (by omega)]
theorem acked_loop (u2 u3 u4 u5 u6 u7 u9 u10 u11 u12 u13 u15 u18 u19 u20 u23 u24 : Int) (u14 : Bool) (u16 u21 : List S68) (u17 : List Int) (S : List Int) (y : Int) (hy : y ≤ S.length) (hS : S.length ≤ 1000001) (m : Nat) : ∀ (i : Int) (acc : List Int), y - i = m → 0 ≤ i → acc.length ≤ i →
    spec_l4Ack.l1 y u2 u3 u4 u5 u6 u7 S u9 u10 u11 u12 u13 u14 u15 u16 u17 u18 u19 u20 u21 u23 u24 i acc = some (acc ++ (S.drop i.toNat).take m) := by
  induction m with
  | zero => intro i acc hi h0 ha; rw [spec_l4Ack.l1, if_neg (by omega)]; simp
  | succ m ih =>
    intro i acc hi h0 ha
    obtain ⟨e, t, hd⟩ : ∃ e t, S.drop i.toNat = e :: t := by
      cases h : S.drop i.toNat with
      | nil => have := congrArg List.length h; rw [List.length_drop, List.length_nil] at this; omega
      | cons e t => exact ⟨e, t, rfl⟩
    obtain ⟨q1, q2, q3⟩ := suf_cons h0 hd 0
    rw [spec_l4Ack.l1, if_pos (by omega), if_pos ⟨h0, q1⟩, if_pos (by omega), q2, wi64_in (by omega) (by omega), ih (i + 1) _ (by omega) (by omega) (by simp; omega), q3, hd]
    simp
theorem ack_both (hc : Cfg I W R MR DA PE) (h : Rel I W n S d tm rto cnt pr dead base T) (hn : n < 1000000) (seq : Int) (hq : 0 ≤ seq ∧ seq < 4294967296) :
    ∃ code fr ac re base' T' d' tm' rto' cnt' pr' dead', spec_l4Ack.f I W R MR DA PE S d tm rto cnt pr dead seq = some (code, fr, ac, 0, re, d', tm', rto', cnt', pr', dead') ∧
      impl_ackSeq_happen.f seq I W R MR DA PE base T tm rto cnt pr dead = some (code, fr, ac, 0, re, base', T', tm', rto', cnt', pr', dead') ∧
      fr.length ≤ 16 ∧ ac.length ≤ 16 ∧ Rel I W (n + 1) S d' tm' rto' cnt' pr' dead' base' T' ∧ StepOk I S d fr ac S d' ∧ AckOut ((seq - base) % 4294967296) T code ac d d' T' := by
  have hl := h.len
  have h0 := h.d0
  have h1 := h.d1
  have hN := h.n_
  have hW := hc.w
  have hw := h.w
  have hb := h.b
  have hr := hc.r
  have hm := hc.m
  have hp := h.pr_
  have keep : Rel I W (n + 1) S d tm rto cnt pr dead base T := { h with n_ := by omega, cnt_ := by have := h.cnt_; omega }
  unfold spec_l4Ack.f impl_ackSeq_happen.f
  obtain ⟨k, hk⟩ : ∃ k, k = (seq - base) % 4294967296 := ⟨_, rfl⟩
  have hk' : k = (seq - (I + d) % 4294967296) % 4294967296 := by rw [hk, hb]
  rw [find_loop (I := I) _ _ _ _ _ _ _ _ _ _ _ _ _ _ _ _ seq k S d h0 (by omega) (by omega) hq hk' ((S.length : Int) + 1 - d).toNat d (-1) (by omega) (by omega), some_bind, wu32, ← hk, wu64, wu64, show k % 18446744073709551616 = k by omega, show (T.length : Int) % 18446744073709551616 = T.length by omega]
  by_cases c : k > (T.length : Int)
  · rw [if_neg (show ¬ (d ≤ d + k ∧ d + k ≤ (S.length : Int)) by omega), if_pos (by omega), if_pos c]
    exact ⟨_, _, _, _, _, _, _, _, _, _, _, _, rfl, rfl, by simp, by simp, keep, ⟨.inl ⟨rfl, fun f hf => by cases hf⟩, ⟨0, by omega, by simp⟩, by simp, by simp, by omega⟩, .inl ⟨c, rfl, rfl⟩⟩
  · have hT' : S.drop (d + k).toNat = T.drop k.toNat := by rw [h.t, List.drop_drop, show (d + k).toNat = d.toNat + k.toNat by omega]
    have hb' : seq = (I + (d + k)) % 4294967296 := by omega
    have hlT : ((T.drop k.toNat).length : Int) = T.length - k := by rw [List.length_drop]; omega
    have hac : (S.drop d.toNat).take k.toNat = T.take k.toNat := by rw [h.t]
    rw [if_pos (show d ≤ d + k ∧ d + k ≤ (S.length : Int) by omega), if_neg (show ¬ d + k < 0 by omega), acked_loop _ _ _ _ _ _ _ _ _ _ _ _ _ _ _ _ _ _ _ _ _ S (d + k) (by omega) (by omega) k.toNat d [] (by omega) h0 (by simpa using h0), some_bind, if_neg c, if_pos (show 0 ≤ k ∧ k ≤ (T.length : Int) by omega), if_pos (show (0 + (k.toNat - 0)) * 8 ≤ 140737488355328 by omega), if_pos (show (0 + (T.length - k.toNat)) * 8 ≤ 140737488355328 by omega), List.nil_append, hac]
    have hS : S.length ≤ 1000000 := by omega
    have hkk : ((k.toNat : Nat) : Int) = k := by omega
    have out_ : AckOut k T 0 (T.take k.toNat) d (d + k) (T.drop k.toNat) := .inr ⟨by omega, rfl, rfl, rfl, rfl⟩
    have step_ : ∀ fr : List S68, fr.length ≤ 16 → (∀ f ∈ fr, AgP I S f) → StepOk I S d fr (T.take k.toNat) S (d + k) := fun fr a1 a2 => ⟨.inl ⟨rfl, a2⟩, ⟨k.toNat, by omega, hac.symm⟩, a1, by rw [List.length_take]; omega, by omega⟩
    have base_ : ∀ tm' rto' cnt' pr' dead', 0 ≤ tm' ∧ tm' ≤ 400 → 1 ≤ rto' ∧ rto' ≤ 400 → 0 ≤ cnt' ∧ cnt' ≤ n + 1 → 0 ≤ pr' ∧ pr' ≤ 50 → (dead' = true → 1 ≤ pr') → Rel I W (n + 1) S (d + k) tm' rto' cnt' pr' dead' seq (T.drop k.toNat) := fun tm' rto' cnt' pr' dead' a1 a2 a3 a4 a5 =>
      ⟨by omega, by omega, by omega, hT'.symm, by omega, hb', a1, a2, a3, a4, a5⟩
    have hcl : (if (S.length : Int) - (d + k) > 0 then R else 0) = (if ((T.drop k.toNat).length : Int) > 0 then R else 0) := by rw [hlT]; congr 1; simp; omega
    have hcb : 0 ≤ (if ((T.drop k.toNat).length : Int) > 0 then R else 0) ∧ (if ((T.drop k.toNat).length : Int) > 0 then R else 0) ≤ 400 := by split <;> omega
    by_cases c2 : dead = true
    · have hag : agL (I + (d + k)) (T.drop k.toNat) = agL seq (T.drop k.toNat) := agL_mod _ (by omega)
      rw [if_pos c2, if_pos c2, again_spec S (T.drop k.toNat) (d + k) _ _ _ _ _ hS (by omega) (by omega) hT'.symm, some_bind, clock_spec S (d + k) _ _ _ _ _ hS (by omega) (by omega), some_bind, some_bind, calm_impl, some_bind, again_impl _ _ _ _ _ _ _ (by omega), some_bind, some_bind, hcl, hag]
      dsimp only
      exact ⟨_, _, _, _, _, _, _, _, _, _, _, _, rfl, rfl, by rw [agL_len]; omega, by rw [List.length_take]; omega, base_ _ _ _ _ _ hcb (by omega) (by omega) (by omega) (fun h => by cases h), step_ _ (by rw [agL_len]; omega) (by rw [← hag]; exact agI_ok (by omega) hT'.symm), out_⟩
    · rw [if_neg c2, if_neg c2]
      by_cases c3 : k > 0
      · rw [if_pos (show d + k > d by omega), if_pos c3, clock_spec S (d + k) _ _ _ _ _ hS (by omega) (by omega), some_bind, some_bind, calm_impl, some_bind, some_bind, hcl]
        dsimp only
        exact ⟨_, _, _, _, _, _, _, _, _, _, _, _, rfl, rfl, by simp, by rw [List.length_take]; omega, base_ _ _ _ _ _ hcb (by omega) (by omega) hp (fun h => absurd h c2), step_ [] (by simp) (fun f hf => by cases hf), out_⟩
      · rw [if_neg (show ¬ d + k > d by omega), if_neg c3, some_bind, some_bind]
        dsimp only
        exact ⟨_, _, _, _, _, _, _, _, _, _, _, _, rfl, rfl, by simp, by rw [List.length_take]; omega, base_ _ _ _ _ _ h.tm_ h.rto_ (by have := h.cnt_; omega) hp (fun h => absurd h c2), step_ [] (by simp) (fun f hf => by cases hf), out_⟩
theorem tick_both (hc : Cfg I W R MR DA PE) (h : Rel I W n S d tm rto cnt pr dead base T) (hn : n < 1000000) :
    ∃ fr di tm' rto' cnt' pr' dead', spec_l4Tick.f I W R MR DA PE S d tm rto cnt pr dead = some (0, fr, [], di, 0, tm', rto', cnt', pr', dead') ∧
      impl_tick_happen.f I W R MR DA PE base T tm rto cnt pr dead = some (0, fr, [], di, 0, tm', rto', cnt', pr', dead') ∧
      fr.length ≤ 16 ∧ Rel I W (n + 1) S d tm' rto' cnt' pr' dead' base T ∧ StepOk I S d fr [] S d := by
  have hl := h.len
  have h0 := h.d0
  have h1 := h.d1
  have hN := h.n_
  have hW := hc.w
  have hw := h.w
  have hb := h.b
  have hr := hc.r
  have hm := hc.m
  have hp := h.pr_
  have htm := h.tm_
  have hrt := h.rto_
  have hcn := h.cnt_
  have hpe := hc.p
  have keep : Rel I W (n + 1) S d tm rto cnt pr dead base T := { h with n_ := by omega, cnt_ := by have := h.cnt_; omega }
  have step_ : ∀ fr : List S68, fr.length ≤ 16 → (∀ f ∈ fr, AgP I S f) → StepOk I S d fr [] S d := fun fr a1 a2 => ⟨.inl ⟨rfl, a2⟩, ⟨0, by omega, by simp⟩, a1, by simp, by omega⟩
  have none_ : StepOk I S d [] [] S d := step_ [] (by simp) (fun f hf => by cases hf)
  unfold spec_l4Tick.f impl_tick_happen.f
  by_cases c : dead = true
  · have hd1 := h.dd c
    rw [if_pos c, if_pos c, wi64_in (n := pr - 1) (by omega) (by omega)]
    by_cases c2 : pr - 1 = 0
    · have hs : IntKind.u32.wrap (I + IntKind.u32.wrap d) = base := by rw [wu32, wu32, hb]; omega
      rw [if_pos c2, if_neg (by omega), some_bind, hs]
      exact ⟨_, _, _, _, _, _, _, rfl, rfl, by simp, { keep with pr_ := by omega, dd := fun _ => by omega }, step_ _ (by simp) (fun f hf => by rw [List.mem_singleton.1 hf]; exact ⟨by simp, fun hh => absurd rfl hh⟩)⟩
    · rw [if_neg c2, if_pos (by omega), some_bind]
      exact ⟨_, _, _, _, _, _, _, rfl, rfl, by simp, { keep with pr_ := by omega, dd := fun _ => by omega }, none_⟩
  · rw [if_neg c, if_neg c]
    by_cases c2 : tm = 0
    · rw [if_pos c2, if_pos c2]; exact ⟨_, _, _, _, _, _, _, rfl, rfl, by simp, keep, none_⟩
    · rw [if_neg c2, if_neg c2, wi64_in (n := tm - 1) (by omega) (by omega)]
      by_cases c3 : tm - 1 > 0
      · rw [if_pos c3, if_pos c3]; exact ⟨_, _, _, _, _, _, _, rfl, rfl, by simp, { keep with tm_ := by omega }, none_⟩
      · rw [if_neg c3, if_neg c3, wi64_in (n := cnt + 1) (by omega) (by omega)]
        by_cases c4 : cnt + 1 = DA
        · have ha := hc.a
          rw [if_pos c4, if_pos c4]
          exact ⟨_, _, _, _, _, _, _, rfl, rfl, by simp, { keep with tm_ := by omega, cnt_ := by omega, pr_ := by omega, dd := fun _ => by omega }, none_⟩
        · have hag : agL (I + d) T = agL base T := agL_mod _ (by rw [hb]; omega)
          have J : ((if 2 * rto > MR then some MR else some (2 * rto)) : Option Int) = some (if MR < 2 * rto then MR else 2 * rto) := by split <;> rfl
          rw [if_neg c4, if_neg c4, wi64_in (n := 2 * rto) (by omega) (by omega), J, some_bind, again_spec S T d _ _ _ _ _ (by omega) h0 h1 h.t, some_bind, again_impl _ _ _ _ _ _ _ (by omega), some_bind, hag]
          have hb2 : 1 ≤ (if MR < 2 * rto then MR else 2 * rto) ∧ (if MR < 2 * rto then MR else 2 * rto) ≤ 400 := by split <;> omega
          exact ⟨_, _, _, _, _, _, _, rfl, rfl, by rw [agL_len]; omega, { keep with tm_ := by omega, rto_ := hb2, cnt_ := by omega }, step_ _ (by rw [agL_len]; omega) (by rw [← hag]; exact agI_ok h0 h.t)⟩
end
end Go.AK
