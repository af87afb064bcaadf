/- A walk of code over an abstract store, part 2. Conditions: none. -/
import Derived.Test.YtlladicdmmdboaaAk1
import Derived.Below
import Derived.Deep.Slices
import Derived.Deep.Fields
import Derived.ChangeArms
import Derived.ChangeSame
import Derived.OpenShut
import Derived.Carry
set_option linter.unusedSimpArgs false
set_option linter.unusedVariables false
/- What came back laid into the store that lent it: place by place. Conditions: none. -/
set_option linter.unusedSimpArgs false
set_option linter.unusedVariables false
namespace Go.AK
open Go

theorem Pls.mem : ∀ {l : Pls} {K : Key} {P : Plc}, Pls.get l K = some P → (K, P) ∈ l
  | [], _, _, h => by cases h
  | (K2, P2) :: l, K, P, h => by
    simp only [Pls.get] at h
    split at h
    · rename_i hk; cases h; rw [hk]; exact List.mem_cons_self
    · exact List.mem_cons_of_mem _ (Pls.mem h)
theorem indep_cons {K : Key} {P : Plc} {r : Pls} (hi : indep ((K, P) :: r) = true) : indep r = true ∧ ∀ {K2 : Key} {P2 : Plc}, Pls.get r K2 = some P2 → K2 ≠ K ∧ dj P P2 = true := by
  simp only [indep, Bool.and_eq_true, List.all_eq_true, decide_eq_true_eq] at hi
  exact ⟨hi.2, fun {K2 P2} h => hi.1 _ (Pls.mem h)⟩
theorem strip_self (p : List Nat) : strip p p = some [] := by have := strip_append p []; rwa [List.append_nil] at this

theorem fwd1_upP {P : Plc} {k : Key} {p q : List Nat} (h : fwd1 P k p = some q) : P.k = k ∧ (upP P q).1 = p ∧ (upP P q).2 = 0 ∧ (q = [] → P.rng = none) ∧ ∀ i r, q = i :: r → inR P.rng (shOf P.rng + i) = true := by
  obtain ⟨hk, ⟨rfl, hr, rfl⟩ | ⟨i, r, rfl, hin, rfl⟩⟩ := fwd1_some h
  · exact ⟨hk, rfl, by simp [upP, hr], fun _ => hr, fun i r hh => by cases hh⟩
  · exact ⟨hk, rfl, rfl, (fun hh => by cases hh), (fun i r hh => by cases hh; exact hin)⟩

theorem dj_fwd {P P' : Plc} (hd : dj P P' = true) {k : Key} {p q q' : List Nat} (h : fwd1 P k p = some q) (h' : fwd1 P' k p = some q') : False := by
  obtain ⟨h1, h2, h3, h4, h5⟩ := fwd1_upP h
  obtain ⟨h1', h2', h3', h4', h5'⟩ := fwd1_upP h'
  exact dj_up (i := 0) (i' := 0) hd (h1.trans h1'.symm) (h2.trans h2'.symm) (by rw [h3, h3']) h5 h5' (fun a l hq hr => by rw [h4 hq] at hr; cases hr) (fun a l hq hr => by rw [h4' hq] at hr; cases hr)
theorem dj_at {P P' : Plc} (hd : dj P P' = true) {k : Key} {p q' : List Nat} (h : isAt P k p = true) (h' : fwd1 P' k p = some q') : False := by
  obtain ⟨h1, rfl⟩ := isAt_some h
  unfold fwd1 at h'
  split at h'
  · rename_i hk'
    unfold dj at hd
    rw [if_pos (h1.trans hk'.symm)] at hd
    obtain ⟨z, hs, hq⟩ := Option.bind_eq_some_iff.1 h'
    have h3 := strip_some hs
    cases z with
    | nil =>
      simp at h3
      rw [h3, strip_self] at hd
      simp only [fwdQ] at hq
      split at hq
      · rename_i hr; simp only [hr] at hd; cases hp : P.rng <;> rw [hp] at hd <;> cases hd
      · cases hq
    | cons i r =>
      have hn : strip P.p P'.p = none := by
        cases hh : strip P.p P'.p with
        | none => rfl
        | some y => have h4 := congrArg List.length (strip_some hh); have h5 := congrArg List.length h3; simp at h4 h5; omega
      rw [hn, hs] at hd
      simp only [fwdQ] at hq
      split at hq
      · rename_i hin; exact out_in hd hin
      · cases hq
  · cases h'

section
variable {X1 : EM} {s2 s1 sj sj' : Sto} {w' : World} {bw : Nm} {K : Key} {P : Plc}

/-- What one laying does. -/
theorem mrg1_spec (H1 : HRel X1 s1 w') (h : mrg1 s1 bw K P sj = some sj') : ∃ R1 R cs N, s1.get K = some R1 ∧ sj.get P.k = some R ∧ sj.blk P.k P.p = some (R1.e, cs) ∧ fits P.rng cs.length = true ∧
    N = R1.cs.map (mapN bw) ∧ sj' = sj.setBlk P.k P.p (splice P.rng cs N) ∧ ((P.p = [] ∧ R.kd = .box) ∨ ∀ x ∈ N, cln x = true) := by
  unfold mrg1 at h
  split at h
  · rename_i R1 R hR1 hR
    split at h
    · rename_i e cs hw
      have hb : sj.blk P.k P.p = some (e, cs) := by simp only [Sto.blk, hR, Option.bind_some, Root.blk]; exact hw
      split at h
      · rename_i hc
        obtain ⟨rfl, hf⟩ := hc
        refine ⟨R1, R, cs, _, hR1, hR, hb, hf, rfl, ?_⟩
        split at h
        · rename_i hbx; cases h; exact ⟨rfl, .inl hbx⟩
        · split at h
          · rename_i hk
            cases h
            have hcl := H1.clean K R1 hR1 hk
            rw [map_mapN_cln hcl]
            exact ⟨rfl, .inr hcl⟩
          · split at h
            · rename_i hall
              cases h
              have hcl := List.all_eq_true.1 hall
              rw [map_mapN_cln hcl]
              exact ⟨rfl, .inr hcl⟩
            · cases h
      · cases h
    · cases h
  · cases h

theorem set_past (hb : ∃ e cs, sj.blk P.k P.p = some (e, cs) ∧ fits P.rng cs.length = true ∧ ∃ N, sj' = sj.setBlk P.k P.p (splice P.rng cs N) ∧ ∀ a l, P.rng = some (a, l) → N.length = l)
    {k : Key} {q : List Nat} (h1 : fwd1 P k q = none) (h2 : isAt P k q = false) : sj'.blkS k q = sj.blkS k q := by
  obtain ⟨e, cs, hb, hf, N, rfl, hN⟩ := hb
  rw [Sto.blkS_setBlk _ _ _ _ hb]
  split
  · rename_i hk
    subst hk
    split
    · rename_i t ht
      cases t with
      | nil => simp [isAt, ht] at h2
      | cons i r =>
        simp only [fwd1, if_true, ht, Option.bind_some, fwdQ] at h1
        split at h1
        · cases h1
        · rename_i hin
          cases hr : P.rng with
          | none => rw [hr] at hin; simp at hin
          | some x =>
            obtain ⟨a, l⟩ := x
            rw [hr] at hin hf
            simp at hin hf
            have h3 : walkS (e, splice (some (a, l)) cs N) (i :: r) = walkS (e, cs) (i :: r) := by
              simp only [walkS, walk]
              rw [splice_get (hN a l hr) hf, if_neg (by omega)]
            rw [h3]
            have h4 := strip_some ht
            rw [h4, blkS_under hb]
    · rfl
  · rfl

theorem Mg.step (H1 : HRel X1 s1 w') {r : Pls} (hi : indep ((K, P) :: r) = true) (M : Mg s2 s1 bw r sj) (h : mrg1 s1 bw K P sj = some sj')
    (hlen : ∀ R1, s1.get K = some R1 → ∀ a l, P.rng = some (a, l) → R1.cs.length = l) (cD : ∀ k i p e cs, sj.blkS k (i :: p) = some (e, cs) → ∀ x ∈ cs, cln x = true) :
    Mg s2 s1 bw ((K, P) :: r) sj' ∧ ∀ k i p e cs, sj'.blkS k (i :: p) = some (e, cs) → ∀ x ∈ cs, cln x = true := by
  obtain ⟨R1, R, cs, N, hR1, hR, hb, hf, hN, hset, hcl⟩ := mrg1_spec H1 h
  obtain ⟨hi1, hi2⟩ := indep_cons hi
  have hNl : ∀ a l, P.rng = some (a, l) → N.length = l := fun a l hr => by rw [hN, List.length_map]; exact hlen R1 hR1 a l hr
  have past : ∀ {k q}, fwd1 P k q = none → isAt P k q = false → sj'.blkS k q = sj.blkS k q := fun h1 h2 => set_past ⟨_, cs, hb, hf, N, hset, hNl⟩ h1 h2
  have hs1 : ∀ q, s1.blkS K q = walkS (R1.e, R1.cs) q := fun q => by simp only [Sto.blkS, Sto.blk, hR1, Option.bind_some, Root.blk]; rfl
  -- into P
  have into : ∀ {k q q'}, fwd1 P k q = some q' → sj'.blkS k q = (s1.blkS K q').map fun b => (b.1, b.2.map (mapN bw)) := fun {k q q'} hq => by
    obtain ⟨rfl, ⟨rfl, hr, rfl⟩ | ⟨i, t, rfl, hin, rfl⟩⟩ := fwd1_some hq
    · rw [hset, Sto.blkS_setBlk _ _ _ _ hb, if_pos rfl, strip_self, hr]
      show walkS (R1.e, N) [] = _
      rw [hN, walkS_map_nil, hs1]
      rfl
    · rw [hset, Sto.blkS_setBlk _ _ _ _ hb, if_pos rfl, strip_append]
      show walkS (R1.e, splice P.rng cs N) ((shOf P.rng + i) :: t) = _
      have e1 : (splice P.rng cs N)[shOf P.rng + i]? = N[i]? := by
        cases hr : P.rng with
        | none => simp [splice]
        | some x =>
          obtain ⟨a, l⟩ := x
          rw [hr] at hin hf
          simp at hin hf
          rw [splice_get (hNl a l hr) hf, if_pos (by simp; omega)]
          simp
      have e2 : walkS (R1.e, splice P.rng cs N) ((shOf P.rng + i) :: t) = walkS (R1.e, R1.cs) (i :: t) := by
        simp only [walkS, walk, e1]
        rw [hN, List.getElem?_map, sub_mapN']
      rw [e2, ← hs1]
      cases hh : s1.blkS K (i :: t) with
      | none => rfl
      | some b => obtain ⟨e', cs'⟩ := b; simp [map_mapN_cln (f := bw) (H1.cleanD K t i e' cs' hh)]
  -- at P
  have at_ : ∀ a l, P.rng = some (a, l) → sj'.blkS P.k P.p = some (R1.e, splice (some (a, l)) (cs.map sh) (N.map sh)) := fun a l hr => by
    rw [hset, Sto.blkS_setBlk _ _ _ _ hb, if_pos rfl, strip_self, hr]
    simp [walkS, walk, shB, splice, List.map_take, List.map_drop]
  have fwd1_at : ∀ {k q}, isAt P k q = true → fwd1 P k q = none → ∃ a l, P.rng = some (a, l) := fun {k q} h1 h2 => by
    obtain ⟨rfl, rfl⟩ := isAt_some h1
    simp only [fwd1, if_true, strip_self, Option.bind_some, fwdQ] at h2
    cases hr : P.rng with
    | none => rw [hr] at h2; cases h2
    | some x => exact ⟨x.1, x.2, rfl⟩
  refine ⟨⟨fun k q K' q' hfw => ?_, fun k q hfw => ?_, fun k => ?_, fun k r0 hg hk x hx => ?_⟩, fun k i p e c hbb x hx => ?_⟩
  · simp only [fwdR] at hfw
    cases hq : fwd1 P k q with
    | some q1 => rw [hq] at hfw; cases hfw; exact into hq
    | none =>
      rw [hq] at hfw
      have ha : isAt P k q = false := by
        cases hh : isAt P k q with
        | false => rfl
        | true => obtain ⟨P2, h1, h2⟩ := fwdR_some hi1 hfw; exact (dj_at (hi2 h1).2 hh h2).elim
      rw [past hq ha]
      exact M.into k q K' q' hfw
  · simp only [fwdR] at hfw
    cases hq : fwd1 P k q with
    | some q1 => rw [hq] at hfw; cases hfw
    | none =>
      rw [hq] at hfw
      have old := M.past k q hfw
      have keep : ∀ {K2 : Key} {P2 : Plc}, Pls.get r K2 = some P2 → Pls.get ((K, P) :: r) K2 = some P2 := fun {K2 P2} h => by
        have hne := (hi2 h).1
        rw [Pls.get, if_neg (fun hh => hne hh.symm)]; exact h
      cases ha : isAt P k q with
      | false =>
        rw [past hq ha]
        rcases old with h1 | ⟨e, c, c', h1, h2, h3, h4⟩
        · exact .inl h1
        · refine .inr ⟨e, c, c', h1, h2, h3, fun i x hx => ?_⟩
          rcases h4 i x hx with ⟨h5, h6⟩ | ⟨K2, P2, cs1, x1, a, l, h5, h6⟩
          · refine .inl ⟨h5, fun K' P' hg' hat => ?_⟩
            simp only [Pls.get] at hg'
            split at hg'
            · cases hg'; rw [ha] at hat; cases hat
            · exact h6 K' P' hg' hat
          · exact .inr ⟨K2, P2, cs1, x1, a, l, keep h5, h6⟩
      | true =>
        obtain ⟨a, l, hr⟩ := fwd1_at ha hq
        have hh := isAt_some ha
        obtain ⟨rfl, rfl⟩ := hh
        rw [hr] at hf
        simp at hf
        have hbS := Sto.blkS_of_blk hb
        rcases old with ⟨_, h1⟩ | ⟨e, c, c', h1, h2, h3, h4⟩
        · rw [hbS] at h1; cases h1
        · rw [hbS] at h2
          cases h2
          refine .inr ⟨R1.e, c, _, h1, at_ a l hr, ?_, fun i x hx => ?_⟩
          · rw [splice_length (by simpa using hNl a l hr) (by simpa using hf)]; exact h3
          · rw [splice_get (by simpa using hNl a l hr) (by simpa using hf)] at hx
            split at hx
            · rename_i hin
              rw [List.getElem?_map, hN, List.getElem?_map, Option.map_map] at hx
              obtain ⟨x0, hx0, rfl⟩ := Option.map_eq_some_iff.1 hx
              refine .inr ⟨K, P, R1.cs.map sh, sh x0, a, l, by simp, isAt_self P, hr, hin.1, hin.2, by rw [hs1]; rfl, by rw [List.getElem?_map, hx0]; rfl, sh_mapN bw x0⟩
            · rename_i hout
              rcases h4 i x hx with ⟨h5, h6⟩ | ⟨K2, P2, cs1, x1, a', l', h5, h6⟩
              · refine .inl ⟨h5, fun K' P' hg' hat => ?_⟩
                simp only [Pls.get] at hg'
                split at hg'
                · cases hg'; rw [hr]; simp; omega
                · exact h6 K' P' hg' hat
              · exact .inr ⟨K2, P2, cs1, x1, a', l', keep h5, h6⟩
  · rw [hset, Sto.get_setBlk, ← M.kd k]
    split
    · rename_i hk; subst hk; cases sj.get P.k <;> rfl
    · rfl
  · rw [hset, Sto.get_setBlk] at hg
    split at hg
    · rename_i hkk
      subst hkk
      rw [hR] at hg
      cases hg
      have hRc := M.clean P.k R hR hk
      have hNc : ∀ x ∈ N, cln x = true := hcl.resolve_left fun hh => hk hh.2
      by_cases hp : P.p = []
      · rw [hp] at hx hb
        simp only [Sto.blk, hR, Option.bind_some, Root.blk, walk, Option.some.injEq, Prod.mk.injEq] at hb
        simp only [setw] at hx
        rw [← hb.2] at hx
        cases hr : P.rng with
        | none => rw [hr] at hx; exact hNc x hx
        | some y =>
          obtain ⟨a, l⟩ := y
          rw [hr] at hx
          simp only [splice, List.mem_append] at hx
          rcases hx with (hx | hx) | hx
          · exact hRc x (List.mem_of_mem_take hx)
          · exact hNc x hx
          · exact hRc x (List.mem_of_mem_drop hx)
      · exact setw_clean hp hRc x hx
    · exact M.clean k r0 hg hk x hx
  · cases hq : fwd1 P k (i :: p) with
    | some q1 =>
      rw [into hq] at hbb
      obtain ⟨⟨e1, c1⟩, h1, h2⟩ := Option.map_eq_some_iff.1 hbb
      simp only [Prod.mk.injEq] at h2
      rw [← h2.2] at hx
      obtain ⟨x1, hx1, rfl⟩ := List.mem_map.1 hx
      cases q1 with
      | nil =>
        obtain ⟨rfl, ⟨_, hr, hp⟩ | ⟨_, _, hh, _⟩⟩ := fwd1_some hq
        · have hNc : ∀ x ∈ N, cln x = true := hcl.resolve_left fun hh => by rw [hh.1] at hp; cases hp
          rw [hs1] at h1
          simp [walkS, walk, shB] at h1
          rw [← h1.2] at hx1
          obtain ⟨x0, hx0, rfl⟩ := List.mem_map.1 hx1
          rw [← sh_mapN, cln_sh]
          exact hNc _ (by rw [hN]; exact List.mem_map.2 ⟨x0, hx0, rfl⟩)
        · cases hh
      | cons j t => exact cln_mapN (H1.cleanD K t j e1 c1 h1 x1 hx1)
    | none =>
      cases ha : isAt P k (i :: p) with
      | false => rw [past hq ha] at hbb; exact cD k i p e c hbb x hx
      | true =>
        obtain ⟨a, l, hr⟩ := fwd1_at ha hq
        obtain ⟨rfl, hp⟩ := isAt_some ha
        have hNc : ∀ x ∈ N, cln x = true := hcl.resolve_left fun hh => by rw [hh.1] at hp; cases hp
        rw [hp, at_ a l hr] at hbb
        cases hbb
        simp only [splice, List.mem_append] at hx
        have hcs := cD P.k i p R1.e (cs.map sh) (by rw [hp]; exact Sto.blkS_of_blk hb)
        rcases hx with (hx | hx) | hx
        · exact hcs x (List.mem_of_mem_take hx)
        · obtain ⟨x0, hx0, rfl⟩ := List.mem_map.1 hx; rw [cln_sh]; exact hNc _ hx0
        · exact hcs x (List.mem_of_mem_drop hx)
end
end Go.AK


/- What came back laid into the store that lent it: all of it. Conditions: none. -/
set_option linter.unusedSimpArgs false
set_option linter.unusedVariables false
namespace Go.AK
open Go

theorem Mg.all {X1 : EM} {s2 s1 : Sto} {w' : World} {bw : Nm} (H1 : HRel X1 s1 w') (c2 : ∀ k r, s2.get k = some r → r.kd ≠ .box → ∀ x ∈ r.cs, cln x = true) (cD2 : ∀ k i p e cs, s2.blkS k (i :: p) = some (e, cs) → ∀ x ∈ cs, cln x = true) :
    ∀ {pl : Pls} {sj : Sto}, indep pl = true → mrgL s1 bw s2 pl = some sj → (∀ K P, pl.get K = some P → ∀ R1, s1.get K = some R1 → ∀ a l, P.rng = some (a, l) → R1.cs.length = l) →
      Mg s2 s1 bw pl sj ∧ ∀ k i p e cs, sj.blkS k (i :: p) = some (e, cs) → ∀ x ∈ cs, cln x = true
  | [], sj, _, h, _ => by
    cases h
    refine ⟨⟨fun k q K q' hh => by simp [fwdR] at hh, fun k q _ => ?_, fun k => rfl, c2⟩, cD2⟩
    cases hb : s2.blkS k q with
    | none => exact .inl ⟨rfl, rfl⟩
    | some b => obtain ⟨e, cs⟩ := b; exact .inr ⟨e, cs, cs, rfl, rfl, rfl, fun i x hx => .inl ⟨hx, fun K P hh => by simp at hh⟩⟩
  | (K, P) :: r, sj, hi, h, hl => by
    simp only [mrgL] at h
    split at h
    · rename_i s' hs'
      obtain ⟨hi1, hi2⟩ := indep_cons hi
      obtain ⟨M, cD⟩ := Mg.all H1 c2 cD2 hi1 hs' (fun K2 P2 h2 => hl K2 P2 (by have hne := (hi2 h2).1; rw [Pls.get, if_neg (fun hh => hne hh.symm)]; exact h2))
      exact M.step H1 hi h (fun R1 hR1 => hl K P (by simp) R1 hR1) cD
    · cases h

def resL (d : Option Tmp) (bw : Nm) : Sto → Sto → Option Sto
  | [], s => some s
  | (K, R) :: r, s => match resL d bw r s with
    | none => none
    | some s' => match K, d with
      | .res i, some t => match s.get (.tmp t i) with
        | some _ => none
        | none => if R.kd = .fz then none else some (s'.set (.tmp t i) (mapR bw R))
      | _, _ => some s'
def newK (d : Option Tmp) (s1 : Sto) : Key → Option Key
  | .tmp t' i => if d = some t' ∧ (s1.get (.res i)).isSome then some (.res i) else none
  | _ => none

theorem resL_spec {d : Option Tmp} {bw : Nm} {s : Sto} : ∀ {s1 s4 : Sto}, resL d bw s1 s = some s4 →
    (∀ k K, newK d s1 k = some K → s.get k = none ∧ ∃ R, s1.get K = some R ∧ R.kd ≠ .fz ∧ s4.get k = some (mapR bw R)) ∧ ∀ k, newK d s1 k = none → s4.get k = s.get k
  | [], s4, h => by
    cases h
    refine ⟨fun k K hk => ?_, fun k _ => rfl⟩
    unfold newK at hk
    split at hk <;> simp at hk
  | (K1, R) :: r, s4, h => by
    simp only [resL] at h
    split at h
    · cases h
    · rename_i s' hs'
      obtain ⟨ih1, ih2⟩ := resL_spec hs'
      have other : (∀ i, K1 = .res i → d = none) → (∀ k K, newK d ((K1, R) :: r) k = some K → newK d r k = some K ∧ Sto.get ((K1, R) :: r) K = Sto.get r K) ∧ ∀ k, newK d ((K1, R) :: r) k = none → newK d r k = none := fun hK => by
        have key : ∀ t i, d = some t → Sto.get ((K1, R) :: r) (.res i) = Sto.get r (.res i) := fun t i hd => by
          rw [Sto.get, if_neg]
          intro hh
          have := hK i hh
          rw [this] at hd; cases hd
        refine ⟨fun k K hk => ?_, fun k hk => ?_⟩
        · unfold newK at hk ⊢
          cases k with
          | tmp t i =>
            simp only at hk ⊢
            split at hk
            · rename_i hc; cases hk; rw [key t i hc.1] at hc; rw [if_pos hc, key t i hc.1]; exact ⟨rfl, rfl⟩
            · cases hk
          | arg j => cases hk
          | res j => cases hk
        · unfold newK at hk ⊢
          cases k with
          | tmp t i =>
            simp only at hk ⊢
            split at hk
            · cases hk
            · rename_i hc
              rw [if_neg]
              intro hc'
              exact hc ⟨hc'.1, by rw [key t i hc'.1]; exact hc'.2⟩
          | arg j => rfl
          | res j => rfl
      split at h
      · rename_i i t
        split at h
        · cases h
        · rename_i hnone
          split at h
          · cases h
          · rename_i hfz
            cases h
            refine ⟨fun k K hk => ?_, fun k hk => ?_⟩
            · unfold newK at hk
              cases k with
              | tmp t' j =>
                simp only at hk
                split at hk
                · rename_i hc
                  cases hk
                  have ht : t = t' := by simpa using hc.1
                  subst ht
                  by_cases hij : i = j
                  · subst hij
                    exact ⟨hnone, R, by simp, hfz, by rw [Sto.get_set, if_pos rfl]⟩
                  · have hg : Sto.get ((Key.res i, R) :: r) (.res j) = Sto.get r (.res j) := by rw [Sto.get, if_neg (by simp [hij])]
                    obtain ⟨h1, R', h2, h3, h4⟩ := ih1 (.tmp t j) (.res j) (by unfold newK; exact if_pos ⟨rfl, by rw [← hg]; exact hc.2⟩)
                    exact ⟨h1, R', by rw [hg]; exact h2, h3, by rw [Sto.get_set, if_neg (by simp [hij])]; exact h4⟩
                · cases hk
              | arg j => cases hk
              | res j => cases hk
            · have hne : ¬ Key.tmp t i = k := fun hh => by subst hh; simp [newK] at hk
              rw [Sto.get_set, if_neg hne]
              refine ih2 k ?_
              unfold newK at hk ⊢
              cases k with
              | tmp t' j =>
                simp only at hk ⊢
                split at hk
                · cases hk
                · rename_i hc
                  rw [if_neg]
                  rintro ⟨h5, h6⟩
                  have ht : t = t' := by simpa using h5
                  subst ht
                  have hij : ¬ i = j := fun hh => hne (by rw [hh])
                  exact hc ⟨rfl, by rw [Sto.get, if_neg (by simp [hij])]; exact h6⟩
              | arg j => rfl
              | res j => rfl
      · rename_i hno
        cases h
        have ho := other (fun i hKi => by
          cases d with
          | none => rfl
          | some t => exact (hno i t hKi rfl).elim)
        refine ⟨fun k K hk => ?_, fun k hk => ih2 k (ho.2 k hk)⟩
        obtain ⟨h1, h2⟩ := ho.1 k K hk
        obtain ⟨h3, R', h4, h5⟩ := ih1 k K h1
        exact ⟨h3, R', by rw [h2]; exact h4, h5⟩

def mrg (s s1 : Sto) (pl : Pls) (ma mb : List Nat) (d : Option Tmp) : Option Sto :=
  match mrgL s1 (bwd pl d) (s.mapN (killNm pl ma mb)) pl with
  | none => none
  | some s3 => resL d (bwd pl d) s1 s3

theorem dj_symm {P P' : Plc} (hd : dj P P' = true) : dj P' P = true := by
  unfold dj at hd ⊢
  by_cases hk : P.k = P'.k
  · rw [if_pos hk] at hd
    rw [if_pos hk.symm]
    cases h1 : strip P.p P'.p with
    | none =>
      rw [h1] at hd
      cases h2 : strip P'.p P.p with
      | none => rfl
      | some z => rw [h2] at hd; cases z with
        | nil => cases hd
        | cons i r => exact hd
    | some z =>
      rw [h1] at hd
      have h3 := strip_some h1
      cases z with
      | nil =>
        have : P'.p = P.p := by simpa using h3
        rw [this, strip_self]
        show djR P'.rng P.rng = true
        cases h5 : P.rng with
        | none => rw [h5] at hd; cases hd
        | some x =>
          cases h6 : P'.rng with
          | none => rw [h5, h6] at hd; cases hd
          | some y => obtain ⟨a, l⟩ := x; obtain ⟨a', l'⟩ := y; rw [h5, h6] at hd; simp [djR] at hd ⊢; omega
      | cons i r =>
        have hn : strip P'.p P.p = none := by
          cases hh : strip P'.p P.p with
          | none => rfl
          | some y => have h4 := congrArg List.length (strip_some hh); have h5 := congrArg List.length h3; simp at h4 h5; omega
        rw [hn]
        exact hd
  · rw [if_neg fun hh => hk hh.symm]
theorem indep_dj {pl : Pls} (hi : indep pl = true) {K K' : Key} {P P' : Plc} (h : pl.get K = some P) (h' : pl.get K' = some P') (hne : K ≠ K') : dj P P' = true :=
  (indep_get hi h h' hne).elim id dj_symm
theorem fwdR_none : ∀ {pl : Pls} {k : Key} {q : List Nat}, fwdR pl k q = none → ∀ {K : Key} {P : Plc}, pl.get K = some P → fwd1 P k q = none
  | [], _, _, _, _, _, h => by cases h
  | (K1, P1) :: r, k, q, h, K, P, hK => by
    simp only [fwdR] at h
    split at h
    · cases h
    · rename_i hn
      simp only [Pls.get] at hK
      split at hK
      · cases hK; exact hn
      · exact fwdR_none h hK
theorem fwdR_get {pl : Pls} (hi : indep pl = true) {K : Key} {P : Plc} (hK : pl.get K = some P) {k : Key} {q q' : List Nat} (h : fwd1 P k q = some q') : fwdR pl k q = some (K, q') := by
  cases hf : fwdR pl k q with
  | none => rw [fwdR_none hf hK] at h; cases h
  | some x =>
    obtain ⟨K2, q2⟩ := x
    obtain ⟨P2, h1, h2⟩ := fwdR_some hi hf
    by_cases hKK : K = K2
    · subst hKK; rw [hK] at h1; cases h1; rw [h] at h2; cases h2; rfl
    · exact (dj_fwd (indep_dj hi hK h1 hKK) h h2).elim

/-- What is known where a call comes back. -/
structure MH (X : EM) (s : Sto) (w : World) (pl : Pls) (s0 : Sto) (X1 : EM) (s1 : Sto) (w' : World) (ma mb : List Nat) (d : Option Tmp) (s4 : Sto) : Prop where
  H : HRel X s w
  hi : indep pl = true
  h0 : foc s pl = some s0
  H1 : HRel X1 s1 w'
  F : Fr (X.foc pl) s0 w w'
  Ft : Foot (X.foc pl) s0 w X1 s1
  keep : ∀ K P, pl.get K = some P → (memK ma K = false → memK mb K = false → ∀ q, Tr (X.foc pl) s0 K q X1 s1 K q) ∧ (memK mb K = false → Tr (X.foc pl) s0 K [] X1 s1 K [])
  c1 : ∀ K P, pl.get K = some P → memK mb K = true → P.rng = none ∧ P.p = []
  c2 : ∀ K P, pl.get K = some P → ∀ R1, s1.get K = some R1 → R1.kd = .fz → s0.get K = some R1 ∧ memK ma K = false ∧ memK mb K = false
  c3 : ∀ K P, pl.get K = some P → ∃ j, K = .arg j
  hm : mrg s s1 pl ma mb d = some s4

def srcK (pl : Pls) (d : Option Tmp) (s1 : Sto) (k : Key) (q : List Nat) : Option (Key × List Nat) := match newK d s1 k with
  | some K => some (K, q)
  | none => fwdR pl k q
def EM.mrg (X X1 : EM) (pl : Pls) (d : Option Tmp) (s1 : Sto) : EM := fun k q => match srcK pl d s1 k q with
  | some (K, q') => X1 K q'
  | none => X k q
end Go.AK


/- What came back laid into the store that lent it: the names; what is apart. Conditions: none. -/
set_option linter.unusedSimpArgs false
set_option linter.unusedVariables false
namespace Go.AK
open Go

theorem blkS_get_eq {s s' : Sto} {k k' : Key} (h : s.get k = s'.get k') (q : List Nat) : s.blkS k q = s'.blkS k' q := by simp only [Sto.blkS, Sto.blk, h]
theorem blkS_get {s : Sto} {k : Key} {q : List Nat} (h : (s.blkS k q).isSome) : (s.get k).isSome := by
  cases hg : s.get k with
  | none => simp [Sto.blkS, Sto.blk, hg] at h
  | some R => rfl
theorem fwd1_snoc {P : Plc} {k : Key} {p q : List Nat} (h : fwd1 P k p = some q) (i : Nat) : fwd1 P k (p ++ [i]) = some (q ++ [i]) := by
  obtain ⟨rfl, h2, h3, h4, h5⟩ := fwd1_upP h
  have := fwd1_up (P := P) (q := q ++ [i]) (fun hh => by simp at hh) (fun j r hh => by
    cases q with
    | nil => simp at hh; rw [h4 rfl]; rfl
    | cons j' r' => simp at hh; rw [← hh.1]; exact h5 _ _ rfl)
  rw [upP_snoc, h2, h3, Nat.zero_add] at this
  exact this
theorem isU_of_fwd {P : Plc} {k : Key} {p : List Nat} {i : Nat} {r : List Nat} (h : fwd1 P k p = some (i :: r)) : isU P k p = true := by
  obtain ⟨hk, ⟨hh, _⟩ | ⟨i', r', h1, hin, rfl⟩⟩ := fwd1_some h
  · cases hh
  · unfold isU; simp only [hk, decide_true, strip_append, Bool.true_and]; exact hin
theorem isAt_of_fwd {P : Plc} {k : Key} {p : List Nat} (h : fwd1 P k p = some []) : isAt P k p = true := by
  obtain ⟨rfl, ⟨_, hr, rfl⟩ | ⟨i', r', h1, _⟩⟩ := fwd1_some h
  · exact isAt_self P
  · cases h1
theorem bad_not {ma mb : List Nat} : ∀ {pl : Pls} {k : Key} {p : List Nat}, badN ma mb pl k p = false → ∀ {K P}, pl.get K = some P →
    (isAt P k p = true → memK mb K = false) ∧ (isU P k p = true → memK ma K = false ∧ memK mb K = false)
  | [], _, _, _, K, P, h => by cases h
  | (K1, P1) :: r, k, p, hb, K, P, h => by
    simp only [badN, Bool.or_eq_false_iff] at hb
    simp only [Pls.get] at h
    split at h
    · rename_i hk
      cases h
      subst hk
      obtain ⟨⟨h1, h2⟩, _⟩ := hb
      refine ⟨fun ha => ?_, fun hu => ⟨?_, ?_⟩⟩
      · simpa [ha] using h1
      · simpa [hu] using h2
      · simpa [hu] using h1
    · exact bad_not hb.2 h

section
variable {X : EM} {s : Sto} {w : World} {pl : Pls} {s0 : Sto} {X1 : EM} {s1 : Sto} {w' : World} {ma mb : List Nat} {d : Option Tmp} {s4 : Sto}

theorem MH.nomb (M : MH X s w pl s0 X1 s1 w' ma mb d s4) {K : Key} {P : Plc} (hK : pl.get K = some P) (h : P.rng ≠ none ∨ P.p ≠ []) : memK mb K = false := by
  cases hm : memK mb K with
  | false => rfl
  | true => have := M.c1 K P hK hm; exact (h.elim (fun hh => hh this.1) fun hh => hh this.2).elim
theorem MH.root (M : MH X s w pl s0 X1 s1 w' ma mb d s4) {K : Key} {P : Plc} (hK : pl.get K = some P) (hm : memK mb K = false) :
    ∃ e cs cs1, s.blkS P.k P.p = some (e, cs) ∧ fits P.rng cs.length = true ∧ s1.blkS K [] = some (e, cs1) ∧ cs1.length = (seg P.rng cs).length ∧ X1 K [] = X.foc pl K [] := by
  obtain ⟨e, cs, h1, h2, h3⟩ := foc_nil M.H M.h0 hK
  obtain ⟨cs1, h4, h5, h6⟩ := (M.keep K P hK).2 hm e _ h3
  exact ⟨e, cs, cs1, h1, h2, h4, by simpa using h5, h6⟩
theorem MH.hlen (M : MH X s w pl s0 X1 s1 w' ma mb d s4) {K : Key} {P : Plc} (hK : pl.get K = some P) {R1 : Root} (hR : s1.get K = some R1) {a l : Nat} (hr : P.rng = some (a, l)) : R1.cs.length = l := by
  obtain ⟨e, cs, cs1, h1, h2, h3, h4, _⟩ := M.root hK (M.nomb hK (.inl (by rw [hr]; simp)))
  have h5 : s1.blkS K [] = some (R1.e, R1.cs.map sh) := Sto.blkS_of_blk (by simp [Sto.blk, hR])
  rw [h5] at h3
  cases h3
  rw [(seg_length h2).2.2 a l hr] at h4
  simpa using h4

theorem MH.mg (M : MH X s w pl s0 X1 s1 w' ma mb d s4) : ∃ s3, Mg (s.mapN (killNm pl ma mb)) s1 (bwd pl d) pl s3 ∧ (∀ k i p e cs, s3.blkS k (i :: p) = some (e, cs) → ∀ x ∈ cs, cln x = true) ∧ resL d (bwd pl d) s1 s3 = some s4 := by
  have hm := M.hm
  unfold Go.AK.mrg at hm
  split at hm
  · cases hm
  · rename_i s3 hs3
    have := Mg.all M.H1 (s2 := s.mapN (killNm pl ma mb)) (fun k r hg hk x hx => ?_) (fun k i p e cs hb x hx => ?_) M.hi hs3 (fun K P hK R1 hR1 a l hr => M.hlen hK hR1 hr)
    · exact ⟨s3, this.1, this.2, hm⟩
    · rw [Sto.get_mapN] at hg
      obtain ⟨r0, h1, rfl⟩ := Option.map_eq_some_iff.1 hg
      rw [mapR_kd] at hk
      rw [mapR_cs (M.H.clean k r0 h1)] at hx
      obtain ⟨x0, h2, rfl⟩ := List.mem_map.1 hx
      exact cln_mapN (M.H.clean k r0 h1 hk x0 h2)
    · rw [M.H.blkS_mapN] at hb
      obtain ⟨⟨e0, cs0⟩, h1, h2⟩ := Option.map_eq_some_iff.1 hb
      simp only [Prod.mk.injEq] at h2
      rw [← h2.2] at hx
      obtain ⟨x0, h3, rfl⟩ := List.mem_map.1 hx
      exact cln_mapN (M.H.cleanD k p i e0 cs0 h1 x0 h3)

theorem MH.newNone (M : MH X s w pl s0 X1 s1 w' ma mb d s4) {k : Key} {K : Key} (h : newK d s1 k = some K) : s.get k = none ∧ ∃ R, s1.get K = some R ∧ R.kd ≠ .fz ∧ s4.get k = some (mapR (bwd pl d) R) := by
  obtain ⟨s3, G, _, hr⟩ := M.mg
  obtain ⟨h1, h2⟩ := (resL_spec hr).1 k K h
  refine ⟨?_, h2⟩
  have h3 := G.kd k
  rw [h1, Sto.get_mapN] at h3
  cases hg : s.get k with
  | none => rfl
  | some R => rw [hg] at h3; cases h3
theorem MH.newNone' (M : MH X s w pl s0 X1 s1 w' ma mb d s4) {k : Key} (h : (s.get k).isSome) : newK d s1 k = none := by
  cases hn : newK d s1 k with
  | none => rfl
  | some K => rw [(M.newNone hn).1] at h; cases h
theorem newK_res {d : Option Tmp} {s1 : Sto} {k K : Key} (h : newK d s1 k = some K) : ∃ t i, d = some t ∧ k = .tmp t i ∧ K = .res i := by
  unfold newK at h
  split at h
  · rename_i t i
    split at h
    · rename_i hc; cases h; exact ⟨t, i, hc.1, rfl, rfl⟩
    · cases h
  · cases h

theorem MH.src (M : MH X s w pl s0 X1 s1 w' ma mb d s4) {k : Key} {q : List Nat} {K : Key} {q' : List Nat} (h : srcK pl d s1 k q = some (K, q')) :
    s4.blkS k q = (s1.blkS K q').map fun b => (b.1, b.2.map (mapN (bwd pl d))) := by
  unfold srcK at h
  split at h
  · rename_i K' hn
    cases h
    obtain ⟨_, R, h1, _, h2⟩ := M.newNone hn
    rw [← M.H1.blkS_mapN]
    exact blkS_get_eq (by rw [h2, Sto.get_mapN, h1]; rfl) q
  · rename_i hn
    obtain ⟨s3, G, _, hr⟩ := M.mg
    rw [blkS_get_eq ((resL_spec hr).2 k hn) q]
    exact G.into k q K q' h

theorem srcK_none {k : Key} {q : List Nat} (h : srcK pl d s1 k q = none) : newK d s1 k = none ∧ fwdR pl k q = none := by
  unfold srcK at h
  split at h
  · cases h
  · rename_i hn; exact ⟨hn, h⟩

theorem MH.past (M : MH X s w pl s0 X1 s1 w' ma mb d s4) {k : Key} {q : List Nat} (h : srcK pl d s1 k q = none) :
    (s.blkS k q = none ∧ s4.blkS k q = none) ∨ ∃ e cs cs', s.blkS k q = some (e, cs) ∧ s4.blkS k q = some (e, cs') ∧ cs'.length = cs.length ∧
    ∀ i x, cs'[i]? = some x → (∃ x0, cs[i]? = some x0 ∧ x = mapN (killNm pl ma mb) x0 ∧ ∀ K P, pl.get K = some P → isAt P k q = true → inR P.rng i = false) ∨
      ∃ K P cs1 x1 a l, pl.get K = some P ∧ isAt P k q = true ∧ P.rng = some (a, l) ∧ a ≤ i ∧ i < a + l ∧ s1.blkS K [] = some (e, cs1) ∧ cs1[i - a]? = some x1 ∧ x = mapN (bwd pl d) x1 := by
  obtain ⟨hn, hf⟩ := srcK_none h
  obtain ⟨s3, G, _, hr⟩ := M.mg
  rw [blkS_get_eq ((resL_spec hr).2 k hn) q]
  rcases G.past k q hf with ⟨h1, h2⟩ | ⟨e, cs, cs', h1, h2, h3, h4⟩
  · rw [M.H.blkS_mapN] at h1
    exact .inl ⟨by simpa using h1, h2⟩
  · rw [M.H.blkS_mapN] at h1
    obtain ⟨⟨e0, cs0⟩, h5, h6⟩ := Option.map_eq_some_iff.1 h1
    simp only [Prod.mk.injEq] at h6
    obtain ⟨rfl, rfl⟩ := h6
    refine .inr ⟨e0, cs0, cs', h5, h2, by simpa using h3, fun i x hx => ?_⟩
    rcases h4 i x hx with ⟨h7, h8⟩ | h7
    · rw [List.getElem?_map] at h7
      obtain ⟨x0, h9, rfl⟩ := Option.map_eq_some_iff.1 h7
      exact .inl ⟨x0, h9, rfl, h8⟩
    · exact .inr h7

theorem MH.owned (M : MH X s w pl s0 X1 s1 w' ma mb d s4) {k : Key} (h : s4.owned k) : (∃ K, newK d s1 k = some K ∧ s1.owned K) ∨ (newK d s1 k = none ∧ s.owned k) := by
  cases hn : newK d s1 k with
  | some K =>
    obtain ⟨_, R, h1, h2, _⟩ := M.newNone hn
    exact .inl ⟨K, rfl, R, h1, h2⟩
  | none =>
    obtain ⟨s3, G, _, hr⟩ := M.mg
    obtain ⟨R, h1, h2⟩ := h
    rw [(resL_spec hr).2 k hn] at h1
    have h3 := G.kd k
    rw [h1, Sto.get_mapN] at h3
    cases hg : s.get k with
    | none => rw [hg] at h3; cases h3
    | some R0 => rw [hg] at h3; simp [mapR_kd] at h3; exact .inr ⟨rfl, R0, hg, by rw [← h3]; exact h2⟩

theorem MH.tr_src (M : MH X s w pl s0 X1 s1 w' ma mb d s4) {k : Key} {q : List Nat} {K : Key} {q' : List Nat} (h : srcK pl d s1 k q = some (K, q')) : Tr X1 s1 K q' (X.mrg X1 pl d s1) s4 k q := fun e cs hb =>
  ⟨_, by rw [M.src h, hb]; rfl, by simp, by simp [EM.mrg, h]⟩
theorem MH.tr_past (M : MH X s w pl s0 X1 s1 w' ma mb d s4) {k : Key} {q : List Nat} (h : srcK pl d s1 k q = none) : Tr X s k q (X.mrg X1 pl d s1) s4 k q := fun e cs hb => by
  rcases M.past h with ⟨h1, _⟩ | ⟨e', cs0, cs', h1, h2, h3, _⟩
  · rw [hb] at h1; cases h1
  · rw [hb] at h1; cases h1; exact ⟨cs', h2, h3, by simp [EM.mrg, h]⟩

/-- A name that is not bad stays. -/
theorem MH.tr_keep (M : MH X s w pl s0 X1 s1 w' ma mb d s4) {k : Key} {q : List Nat} (h : badN ma mb pl k q = false) : Tr X s k q (X.mrg X1 pl d s1) s4 k q := fun e cs hb => by
  have hn : newK d s1 k = none := M.newNone' (blkS_get (q := q) (by rw [hb]; rfl))
  cases hf : fwdR pl k q with
  | none => exact M.tr_past (by simp [srcK, hn, hf]) e cs hb
  | some x =>
    obtain ⟨K, q'⟩ := x
    obtain ⟨P, h1, h2⟩ := fwdR_some M.hi hf
    have hb' := bad_not h h1
    have t1 := fwd1_tr M.H M.h0 h1 h2
    have t3 := M.tr_src (k := k) (q := q) (K := K) (q' := q') (by simp [srcK, hn, hf])
    have t2 : Tr (X.foc pl) s0 K q' X1 s1 K q' := by
      cases q' with
      | nil => exact (M.keep K P h1).2 (hb'.1 (isAt_of_fwd h2))
      | cons i r => exact (M.keep K P h1).1 (hb'.2 (isU_of_fwd h2)).1 (hb'.2 (isU_of_fwd h2)).2 _
    exact ((t1.trans t2).trans t3) e cs hb

theorem MH.kill_ok (M : MH X s w pl s0 X1 s1 w' ma mb d s4) : (killNm pl ma mb).ok X s (X.mrg X1 pl d s1) s4 where
  r := fun k p o k' p' o' h => by
    simp only [killNm] at h
    split at h
    · cases h
    · rename_i hb; cases h; exact (M.tr_keep (by simpa using hb)).okr _
  p := fun k p o k' p' o' h => by
    simp only [killNm] at h
    split at h
    · cases h
    · rename_i hb; cases h; exact ((M.tr_keep (by simpa using hb)).okr _).p

theorem MH.src_at (M : MH X s w pl s0 X1 s1 w' ma mb d s4) {K : Key} {P : Plc} (hK : pl.get K = some P) : newK d s1 P.k = none ∧ (P.rng ≠ none → fwdR pl P.k P.p = none) := by
  obtain ⟨e, cs, h1, h2, h3⟩ := foc_nil M.H M.h0 hK
  refine ⟨M.newNone' (blkS_get (q := P.p) (by rw [h1]; rfl)), fun hr => ?_⟩
  cases hf : fwdR pl P.k P.p with
  | none => rfl
  | some x =>
    obtain ⟨K2, q2⟩ := x
    obtain ⟨P2, h4, h5⟩ := fwdR_some M.hi hf
    by_cases hKK : K = K2
    · subst hKK
      rw [hK] at h4
      cases h4
      obtain ⟨_, h6, _, h7, _⟩ := fwd1_upP h5
      cases q2 with
      | nil => exact absurd (h7 rfl) hr
      | cons i r => simp [upP] at h6
    · exact (dj_at (indep_dj M.hi hK h4 hKK) (isAt_self P) h5).elim

theorem MH.inr (M : MH X s w pl s0 X1 s1 w' ma mb d s4) {K : Key} {P : Plc} (hK : pl.get K = some P) {i : Nat} {r : List Nat} (hb : (s1.blkS K (i :: r)).isSome) : inR P.rng (shOf P.rng + i) = true := by
  cases hr : P.rng with
  | none => rfl
  | some x =>
    obtain ⟨a, l⟩ := x
    cases hg : s1.get K with
    | none => simp [Sto.blkS, Sto.blk, hg] at hb
    | some R1 =>
      have hl := M.hlen hK hg hr
      have : i < R1.cs.length := by
        rcases Nat.lt_or_ge i R1.cs.length with h | h
        · exact h
        · simp [Sto.blkS, Sto.blk, hg, List.getElem?_eq_none h] at hb
      simp [inR]
      omega

theorem MH.src_up (M : MH X s w pl s0 X1 s1 w' ma mb d s4) {K : Key} {P : Plc} (hK : pl.get K = some P) {q : List Nat} (hq : q = [] → P.rng = none) (hb : (s1.blkS K q).isSome) : srcK pl d s1 P.k (upP P q).1 = some (K, q) ∧ (upP P q).2 = 0 := by
  have h1 : fwd1 P P.k (upP P q).1 = some q := fwd1_up hq fun i r hh => by subst hh; exact M.inr hK hb
  exact ⟨by simp [srcK, (M.src_at hK).1, fwdR_get M.hi hK h1], (fwd1_upP h1).2.2.1⟩

theorem MH.bwd_ok (M : MH X s w pl s0 X1 s1 w' ma mb d s4) : (bwd pl d).ok X1 s1 (X.mrg X1 pl d s1) s4 := by
  have key : ∀ K q o k' p' o', bwdR pl d K q o = some (k', p', o') → OKr X1 s1 (X.mrg X1 pl d s1) s4 K q o k' p' o' := fun K q o k' p' o' h e cs1 hb => by
    unfold bwdR at h
    split at h
    · rename_i P hK
      cases h
      by_cases hq : q = [] → P.rng = none
      · obtain ⟨h1, h2⟩ := M.src_up hK hq (by rw [hb]; rfl)
        rw [h2, Nat.zero_add]
        exact (M.tr_src h1).okr o e cs1 hb
      · have hq1 : q = [] := Classical.byContradiction fun hh => hq fun h => absurd h hh
        subst hq1
        have hr : P.rng ≠ none := fun hh => hq fun _ => hh
        cases hr' : P.rng with
        | none => exact absurd hr' hr
        | some x =>
          obtain ⟨a, l⟩ := x
          obtain ⟨e', cs, cs1', h1, h2, h3, h4, h5⟩ := M.root hK (M.nomb hK (.inl hr))
          rw [hb] at h3
          cases h3
          have hsn : srcK pl d s1 P.k P.p = none := by simp [srcK, (M.src_at hK).1, (M.src_at hK).2 hr]
          rcases M.past hsn with ⟨h6, _⟩ | ⟨e2, cs2, cs', h6, h7, h8, _⟩
          · rw [h1] at h6; cases h6
          · rw [h1] at h6
            cases h6
            have hX : X.mrg X1 pl d s1 P.k P.p = X P.k P.p := by simp [EM.mrg, hsn]
            have hcap := (M.H.room _ _ _ _ h1).1
            have hl := (seg_length h2).2.2 a l hr'
            rw [hr'] at h2
            simp at h2
            refine ⟨cs', by simpa [upP] using h7, fun m hm => ?_, ?_, fun m hm => ?_⟩
            · simp [upP, hr']; omega
            · show _ = (X.mrg X1 pl d s1 P.k P.p).at _
              rw [hX, h5, EM.foc_at X hK]; rfl
            · show _ ≤ (X.mrg X1 pl d s1 P.k P.p).cap
              rw [hX]
              rw [h5] at hm
              simp [EM.foc, hK, hr'] at hm
              simp [upP, hr']
              omega
    · rename_i hK
      split at h
      · rename_i i t
        cases h
        have hg := blkS_get (q := q) (s := s1) (k := .res i) (by rw [hb]; rfl)
        have hn : newK (some t) s1 (.tmp t i) = some (.res i) := by unfold newK; exact if_pos ⟨rfl, hg⟩
        exact (M.tr_src (k := .tmp t i) (q := q) (by simp [srcK, hn])).okr o e cs1 hb
      · cases h
  exact ⟨key, fun K q o k' p' o' h => (key K q o k' p' o' h).p⟩
end
end Go.AK


/- What came back laid into the store that lent it: the theorem. Conditions: none. -/
set_option linter.unusedSimpArgs false
set_option linter.unusedVariables false
namespace Go.AK
open Go

section
variable {X : EM} {s : Sto} {w : World} {pl : Pls} {s0 : Sto} {X1 : EM} {s1 : Sto} {w' : World} {ma mb : List Nat} {d : Option Tmp} {s4 : Sto}

theorem MH.outside (M : MH X s w pl s0 X1 s1 w' ma mb d s4) {k : Key} {q : List Nat} (hb : (s.blkS k q).isSome) (hf : fwdR pl k q = none) {j : Nat} (hj : j < (X k q).cap)
    (hn : ∀ K P, pl.get K = some P → isAt P k q = true → inR P.rng j = false) : ¬ ownC (X.foc pl) s0 ((X k q).at j) := by
  rintro ⟨K2, q2, j2, ho, hb2, hj2, he⟩
  obtain ⟨⟨e2, c2⟩, hb2⟩ := Option.isSome_iff_exists.1 hb2
  obtain ⟨P, cs, hK, h1, h2, h3, h4, h5, h6, h7⟩ := foc_up M.H M.h0 hb2
  obtain ⟨P', hP', hown⟩ := foc_owned M.H M.h0 ho
  rw [hK] at hP'
  cases hP'
  rw [EM.foc_at X hK] at he
  by_cases hs : P.k = k ∧ (upP P q2).1 = q
  · obtain ⟨rfl, rfl⟩ := hs
    have hidx := Ext.at_inj he
    by_cases hq : q2 = [] → P.rng = none
    · have := fwdR_none hf hK
      rw [fwd1_up hq h6] at this
      cases this
    · have hq1 : q2 = [] := Classical.byContradiction fun hh => hq fun h => absurd h hh
      subst hq1
      have h8 := hn K2 P hK (isAt_self P)
      cases hr : P.rng with
      | none => exact hq fun _ => hr
      | some x =>
        obtain ⟨a, l⟩ := x
        have := (h7 a l rfl hr).1
        rw [hr] at h8
        simp [upP, hr] at hidx h8
        omega
  · exact M.H.apart _ _ _ _ (by rw [h1]; rfl) hb hown hs _ _ (by omega) hj he

theorem MH.cell_old (M : MH X s w pl s0 X1 s1 w' ma mb d s4) {k : Key} {q : List Nat} (hb : (s.blkS k q).isSome) (hf : fwdR pl k q = none) {j : Nat} (hj : j < (X k q).cap)
    (hn : ∀ K P, pl.get K = some P → isAt P k q = true → inR P.rng j = false) : w'.cell? ((X k q).at j) = w.cell? ((X k q).at j) := by
  obtain ⟨⟨e, cs⟩, hb1⟩ := Option.isSome_iff_exists.1 hb
  exact M.F.cell _ (cell_block ((M.H.room _ _ _ _ hb1).2 j hj).1) (M.outside hb hf hj hn)

theorem MH.room_old (M : MH X s w pl s0 X1 s1 w' ma mb d s4) {k : Key} {q : List Nat} (hb : (s.blkS k q).isSome) (hf : fwdR pl k q = none) {j : Nat} (hj : j < (X k q).cap) :
    (w'.cell? ((X k q).at j)).isSome ∧ w'.frozen? ((X k q).at j) = w.frozen? ((X k q).at j) := by
  obtain ⟨⟨e, cs⟩, hb1⟩ := Option.isSome_iff_exists.1 hb
  have hc := ((M.H.room _ _ _ _ hb1).2 j hj).1
  refine ⟨?_, M.F.frozen _ (cell_block hc)⟩
  by_cases hn : ∀ K P, pl.get K = some P → isAt P k q = true → inR P.rng j = false
  · rw [M.cell_old hb hf hj hn]; exact hc
  · simp only [Classical.not_forall] at hn
    obtain ⟨K, P, hK, hat, hin⟩ := hn
    obtain ⟨rfl, rfl⟩ := isAt_some hat
    have hr : P.rng ≠ none := fun hr => by
      have := fwdR_none hf hK
      rw [fwd1, if_pos rfl, strip_self, Option.bind_some, fwdQ, hr] at this
      cases this
    cases hr' : P.rng with
    | none => exact absurd hr' hr
    | some x =>
      obtain ⟨a, l⟩ := x
      obtain ⟨e', cs0, cs1, h1, h2, h3, h4, h5⟩ := M.root hK (M.nomb hK (.inl hr))
      have hin' : a ≤ j ∧ j < a + l := by rw [hr'] at hin; simpa using hin
      have h6 := ((M.H1.room _ _ _ _ h3).2 (j - a) (by rw [h5]; simp [EM.foc, hK, hr']; omega)).1
      rw [h5, EM.foc_at X hK] at h6
      simp only [upP, hr', shOf] at h6
      rwa [Nat.add_sub_cancel' hin'.1] at h6

/-- What the callee owns is apart from what is not before its eye. -/
theorem MH.apart_new (M : MH X s w pl s0 X1 s1 w' ma mb d s4) {K : Key} {q1 : List Nat} (ho : s1.owned K) (hb1 : (s1.blkS K q1).isSome) (hnr : ∀ P, pl.get K = some P → P.rng ≠ none → q1 ≠ [])
    {k : Key} {q : List Nat} (hb : (s.blkS k q).isSome) (hf : fwdR pl k q = none) {j j' : Nat} (hj : j < (X1 K q1).cap) (hj' : j' < (X k q).cap) : (X1 K q1).at j ≠ (X k q).at j' := fun he => by
  obtain ⟨⟨e, cs⟩, hbs⟩ := Option.isSome_iff_exists.1 hb
  have hc := cell_block ((M.H.room _ _ _ _ hbs).2 j' hj').1
  rcases M.Ft _ ⟨K, q1, j, ho, hb1, hj, he⟩ with hin | hout
  · by_cases hn : ∀ K P, pl.get K = some P → isAt P k q = true → inR P.rng j' = false
    · exact M.outside hb hf hj' hn hin
    · simp only [Classical.not_forall] at hn
      obtain ⟨K2, P, hK, hat, hinr⟩ := hn
      obtain ⟨rfl, rfl⟩ := isAt_some hat
      have hr : P.rng ≠ none := fun hr => by
        have := fwdR_none hf hK
        rw [fwd1, if_pos rfl, strip_self, Option.bind_some, fwdQ, hr] at this
        cases this
      cases hr' : P.rng with
      | none => exact absurd hr' hr
      | some x =>
        obtain ⟨a, l⟩ := x
        obtain ⟨e', cs0, cs1, h1, h2, h3, h4, h5⟩ := M.root hK (M.nomb hK (.inl hr))
        have hin' : a ≤ j' ∧ j' < a + l := by rw [hr'] at hinr; simpa using hinr
        refine M.H1.apart K q1 K2 [] hb1 (by rw [h3]; rfl) ho (fun hh => ?_) j (j' - a) hj (by rw [h5]; simp [EM.foc, hK, hr']; omega) ?_
        · obtain ⟨rfl, rfl⟩ := hh; exact hnr P hK hr rfl
        · rw [he, h5, EM.foc_at X hK]
          simp only [upP, hr', shOf]
          rw [Nat.add_sub_cancel' hin'.1]
  · omega

theorem MH.src_inj (M : MH X s w pl s0 X1 s1 w' ma mb d s4) {k k' : Key} {q q' : List Nat} {K : Key} {r : List Nat} (h : srcK pl d s1 k q = some (K, r)) (h' : srcK pl d s1 k' q' = some (K, r)) : k = k' ∧ q = q' := by
  unfold srcK at h h'
  split at h
  · rename_i K1 hn
    cases h
    obtain ⟨t, i, hd, rfl, rfl⟩ := newK_res hn
    split at h'
    · rename_i K2 hn'
      cases h'
      obtain ⟨t', i', hd', rfl, hh⟩ := newK_res hn'
      cases hh
      rw [hd] at hd'
      cases hd'
      exact ⟨rfl, rfl⟩
    · obtain ⟨P, h1, _⟩ := fwdR_some M.hi h'
      obtain ⟨j, hh⟩ := M.c3 _ _ h1
      cases hh
  · obtain ⟨P, h1, h2⟩ := fwdR_some M.hi h
    split at h'
    · rename_i K2 hn'
      cases h'
      obtain ⟨t', i', hd', rfl, rfl⟩ := newK_res hn'
      obtain ⟨j, hh⟩ := M.c3 _ _ h1
      cases hh
    · obtain ⟨P', h1', h2'⟩ := fwdR_some M.hi h'
      rw [h1] at h1'
      cases h1'
      obtain ⟨a1, a2, _⟩ := fwd1_upP h2
      obtain ⟨b1, b2, _⟩ := fwd1_upP h2'
      exact ⟨a1.symm.trans b1, a2.symm.trans b2⟩

/-- A place that is not owned behind the call is as it was. -/
theorem MH.src_fz (M : MH X s w pl s0 X1 s1 w' ma mb d s4) {k : Key} {q : List Nat} {K : Key} {r : List Nat} (h : srcK pl d s1 k q = some (K, r)) (hb : (s1.blkS K r).isSome) (ho : ¬ s1.owned K) :
    newK d s1 k = none ∧ (s.blkS k q).isSome ∧ X1 K r = X k q := by
  unfold srcK at h
  split at h
  · rename_i K1 hn
    cases h
    obtain ⟨_, R, h1, h2, _⟩ := M.newNone hn
    exact (ho ⟨R, h1, h2⟩).elim
  · rename_i hn
    obtain ⟨P, h1, h2⟩ := fwdR_some M.hi h
    obtain ⟨R1, hR1⟩ := Option.isSome_iff_exists.1 (blkS_get hb)
    have hfz : R1.kd = .fz := Classical.byContradiction fun hh => ho ⟨R1, hR1, hh⟩
    obtain ⟨h3, h4, h5⟩ := M.c2 K P h1 R1 hR1 hfz
    obtain ⟨⟨e, cs⟩, hb1⟩ := Option.isSome_iff_exists.1 hb
    have hb0 : s0.blkS K r = some (e, cs) := by rw [← hb1]; exact blkS_get_eq (by rw [h3, hR1]) r
    obtain ⟨_, _, _, hX1⟩ := (M.keep K P h1).1 h4 h5 r e cs hb0
    obtain ⟨P', c, hP', hb', _⟩ := foc_up M.H M.h0 hb0
    rw [h1] at hP'
    cases hP'
    obtain ⟨a1, a2, _⟩ := fwd1_upP h2
    rw [a1, a2] at hb'
    obtain ⟨_, _, _, hX0⟩ := fwd1_tr M.H M.h0 h1 h2 e c hb'
    exact ⟨hn, by rw [hb']; rfl, by rw [hX1, hX0]⟩

theorem MH.src_notr (M : MH X s w pl s0 X1 s1 w' ma mb d s4) {k : Key} {q : List Nat} {K : Key} {r : List Nat} (h : srcK pl d s1 k q = some (K, r)) : ∀ P, pl.get K = some P → P.rng ≠ none → r ≠ [] := fun P hP hr hh => by
  unfold srcK at h
  split at h
  · rename_i K1 hn
    cases h
    obtain ⟨t, i, hd, rfl, rfl⟩ := newK_res hn
    obtain ⟨j, hh⟩ := M.c3 _ _ hP
    cases hh
  · obtain ⟨P', h1, h2⟩ := fwdR_some M.hi h
    rw [hP] at h1
    cases h1
    exact hr ((fwd1_upP h2).2.2.2.1 hh)

theorem MH.rel (M : MH X s w pl s0 X1 s1 w' ma mb d s4) : HRel (X.mrg X1 pl d s1) s4 w' where
  cell := fun k p e cs hb i x hx => by
    cases hs : srcK pl d s1 k p with
    | some y =>
      obtain ⟨K, r⟩ := y
      rw [M.src hs] at hb
      obtain ⟨⟨e1, cs1⟩, h1, h2⟩ := Option.map_eq_some_iff.1 hb
      simp only [Prod.mk.injEq] at h2
      obtain ⟨rfl, rfl⟩ := h2
      rw [List.getElem?_map] at hx
      obtain ⟨x1, hx1, rfl⟩ := Option.map_eq_some_iff.1 hx
      obtain ⟨v, hv, hc⟩ := M.H1.cell K r _ _ h1 i x1 hx1
      refine ⟨v, by simp only [EM.mrg, hs]; exact hv, HC_map M.bwd_ok hc fun _ => M.tr_src ?_⟩
      unfold srcK at hs ⊢
      split at hs
      · rename_i K1 hn; cases hs; rfl
      · rename_i hn
        obtain ⟨P, h3, h4⟩ := fwdR_some M.hi hs
        exact fwdR_get M.hi h3 (fwd1_snoc h4 i)
    | none =>
      have hX : X.mrg X1 pl d s1 k p = X k p := by simp [EM.mrg, hs]
      obtain ⟨hn, hf⟩ := srcK_none hs
      rcases M.past hs with ⟨_, h1⟩ | ⟨e', cs0, cs', h1, h2, h3, h4⟩
      · rw [hb] at h1; cases h1
      · rw [hb] at h2
        cases h2
        rw [hX]
        have hi := getElem?_len hx
        have hroom := M.H.room _ _ _ _ h1
        rcases h4 i x hx with ⟨x0, h5, rfl, h6⟩ | ⟨K, P, cs1, x1, a, l, h5, h6, h7, h8, h9, h10, h11, rfl⟩
        · obtain ⟨v, hv, hc⟩ := M.H.cell k p _ _ h1 i x0 h5
          refine ⟨v, by rw [M.cell_old (by rw [h1]; rfl) hf (by omega) h6]; exact hv, HC_map M.kill_ok hc fun _ => ?_⟩
          -- what the cell owns
          cases hs2 : fwdR pl k (p ++ [i]) with
          | none => exact M.tr_past (by simp [srcK, hn, hs2])
          | some y =>
            obtain ⟨K, q'⟩ := y
            obtain ⟨P, h7, h8⟩ := fwdR_some M.hi hs2
            have t1 := fwd1_tr M.H M.h0 h7 h8
            have t3 := M.tr_src (k := k) (q := p ++ [i]) (K := K) (q' := q') (by simp [srcK, hn, hs2])
            obtain ⟨b1, b2, b3, b4, b5⟩ := fwd1_upP h8
            cases q' with
            | nil => exact (t1.trans ((M.keep K P h7).2 (M.nomb h7 (.inr (by intro hh; simp only [upP] at b2; rw [hh] at b2; simp at b2))))).trans t3
            | cons j r =>
              exfalso
              rcases List.eq_nil_or_concat r with rfl | ⟨r', z, rfl⟩
              · have b6 : P.p ++ [shOf P.rng + j] = p ++ [i] := b2
                have b7 := List.append_inj' b6 rfl
                have b8 : shOf P.rng + j = i := by simpa using b7.2
                have := h6 K P h7 (by rw [← b1, ← b7.1]; exact isAt_self P)
                rw [← b8, b5 j [] rfl] at this
                cases this
              · have b6 : (P.p ++ (shOf P.rng + j) :: r') ++ [z] = p ++ [i] := by simpa [upP] using b2
                have b7 := List.append_inj' b6 rfl
                have b8 := fwd1_up (P := P) (q := j :: r') (fun hh => by cases hh) (fun i' r0 hh => by cases hh; exact b5 j _ rfl)
                have b9 : (upP P (j :: r')).1 = p := b7.1
                rw [b9, b1, fwdR_none hf h7] at b8
                cases b8
        · obtain ⟨rfl, rfl⟩ := isAt_some h6
          obtain ⟨e', cs0', cs1', h12, h13, h14, h15, h16⟩ := M.root h5 (M.nomb h5 (.inl (by rw [h7]; simp)))
          obtain ⟨v, hv, hc⟩ := M.H1.cell K [] _ _ h10 _ x1 h11
          refine ⟨v, ?_, HC_map M.bwd_ok hc fun _ => M.tr_src ?_⟩
          · rw [h16, EM.foc_at X h5] at hv
            simp only [upP, h7, shOf] at hv
            rwa [Nat.add_sub_cancel' h8] at hv
          · have hup := fwd1_up (P := P) (q := [i - a]) (fun hh => by cases hh) (fun i' r0 hh => by cases hh; rw [h7]; simp; omega)
            simp only [upP, h7, shOf, Nat.add_sub_cancel' h8] at hup
            simp only [srcK, hn, List.nil_append]
            exact fwdR_get M.hi h5 hup
  room := fun k p e cs hb => by
    cases hs : srcK pl d s1 k p with
    | some y =>
      obtain ⟨K, r⟩ := y
      have hX : X.mrg X1 pl d s1 k p = X1 K r := by simp [EM.mrg, hs]
      rw [M.src hs] at hb
      obtain ⟨⟨e1, cs1⟩, h1, h2⟩ := Option.map_eq_some_iff.1 hb
      simp only [Prod.mk.injEq] at h2
      obtain ⟨rfl, rfl⟩ := h2
      obtain ⟨h3, h4⟩ := M.H1.room _ _ _ _ h1
      rw [hX]
      refine ⟨by simpa using h3, fun j hj => ⟨(h4 j hj).1, fun ho => ?_⟩⟩
      by_cases ho1 : s1.owned K
      · exact (h4 j hj).2 ho1
      · obtain ⟨hn, hbs, hX1⟩ := M.src_fz hs (by rw [h1]; rfl) ho1
        rcases M.owned ho with ⟨K', hK', _⟩ | ⟨_, ho2⟩
        · rw [hn] at hK'; cases hK'
        · obtain ⟨⟨e0, c0⟩, hbs⟩ := Option.isSome_iff_exists.1 hbs
          rw [hX1] at hj ⊢
          obtain ⟨h5, h6⟩ := (M.H.room _ _ _ _ hbs).2 j hj
          rw [M.F.frozen _ (cell_block h5)]
          exact h6 ho2
    | none =>
      have hX : X.mrg X1 pl d s1 k p = X k p := by simp [EM.mrg, hs]
      obtain ⟨hn, hf⟩ := srcK_none hs
      rcases M.past hs with ⟨_, h1⟩ | ⟨e', cs0, cs', h1, h2, h3, h4⟩
      · rw [hb] at h1; cases h1
      · rw [hb] at h2
        cases h2
        rw [hX]
        obtain ⟨h5, h6⟩ := M.H.room _ _ _ _ h1
        refine ⟨by omega, fun j hj => ?_⟩
        obtain ⟨h7, h8⟩ := M.room_old (by rw [h1]; rfl) hf hj
        refine ⟨h7, fun ho => ?_⟩
        rw [h8]
        rcases M.owned ho with ⟨K', hK', _⟩ | ⟨_, ho2⟩
        · rw [hn] at hK'; cases hK'
        · exact (h6 j hj).2 ho2
  apart := fun k p k' p' hb hb' ho hne j j' hj hj' => by
    cases hs : srcK pl d s1 k p with
    | some y =>
      obtain ⟨K, r⟩ := y
      have hX : X.mrg X1 pl d s1 k p = X1 K r := by simp [EM.mrg, hs]
      rw [hX] at hj ⊢
      rw [M.src hs, Option.isSome_map] at hb
      cases hs' : srcK pl d s1 k' p' with
      | some y' =>
        obtain ⟨K', r'⟩ := y'
        have hX' : X.mrg X1 pl d s1 k' p' = X1 K' r' := by simp [EM.mrg, hs']
        rw [hX'] at hj' ⊢
        rw [M.src hs', Option.isSome_map] at hb'
        have hne1 : ¬ (K = K' ∧ r = r') := fun hh => by
          obtain ⟨rfl, rfl⟩ := hh
          exact hne (M.src_inj hs hs')
        by_cases h1 : s1.owned K
        · exact M.H1.apart _ _ _ _ hb hb' h1 hne1 j j' hj hj'
        · by_cases h2 : s1.owned K'
          · exact fun he => M.H1.apart _ _ _ _ hb' hb h2 (fun hh => hne1 ⟨hh.1.symm, hh.2.symm⟩) j' j hj' hj he.symm
          · obtain ⟨hn, hbs, hX1⟩ := M.src_fz hs hb h1
            obtain ⟨hn', hbs', hX1'⟩ := M.src_fz hs' hb' h2
            rw [hX1] at hj ⊢
            rw [hX1'] at hj' ⊢
            rcases M.owned ho with ⟨K', hK', _⟩ | ⟨_, ho2⟩
            · rw [hn] at hK'; cases hK'
            · exact M.H.apart _ _ _ _ hbs hbs' ho2 hne j j' hj hj'
      | none =>
        have hX' : X.mrg X1 pl d s1 k' p' = X k' p' := by simp [EM.mrg, hs']
        obtain ⟨hn', hf'⟩ := srcK_none hs'
        rw [hX'] at hj' ⊢
        rcases M.past hs' with ⟨_, h1⟩ | ⟨e', cs0, cs', h1, _⟩
        · rw [h1] at hb'; cases hb'
        · by_cases ho1 : s1.owned K
          · exact M.apart_new ho1 hb (M.src_notr hs) (by rw [h1]; rfl) hf' hj hj'
          · obtain ⟨hn, hbs, hX1⟩ := M.src_fz hs hb ho1
            rw [hX1] at hj ⊢
            rcases M.owned ho with ⟨K', hK', _⟩ | ⟨_, ho2⟩
            · rw [hn] at hK'; cases hK'
            · exact M.H.apart _ _ _ _ hbs (by rw [h1]; rfl) ho2 hne j j' hj hj'
    | none =>
      have hX : X.mrg X1 pl d s1 k p = X k p := by simp [EM.mrg, hs]
      obtain ⟨hn, hf⟩ := srcK_none hs
      have ho2 : s.owned k := by
        rcases M.owned ho with ⟨K', hK', _⟩ | ⟨_, ho2⟩
        · rw [hn] at hK'; cases hK'
        · exact ho2
      rw [hX] at hj ⊢
      have hbs : (s.blkS k p).isSome := by
        rcases M.past hs with ⟨_, h1⟩ | ⟨e', cs0, cs', h1, _⟩
        · rw [h1] at hb; cases hb
        · rw [h1]; rfl
      cases hs' : srcK pl d s1 k' p' with
      | some y' =>
        obtain ⟨K', r'⟩ := y'
        have hX' : X.mrg X1 pl d s1 k' p' = X1 K' r' := by simp [EM.mrg, hs']
        rw [hX'] at hj' ⊢
        rw [M.src hs', Option.isSome_map] at hb'
        by_cases ho1 : s1.owned K'
        · exact fun he => M.apart_new ho1 hb' (M.src_notr hs') hbs hf hj' hj he.symm
        · obtain ⟨hn', hbs', hX1'⟩ := M.src_fz hs' hb' ho1
          rw [hX1'] at hj' ⊢
          exact M.H.apart _ _ _ _ hbs hbs' ho2 hne j j' hj hj'
      | none =>
        have hX' : X.mrg X1 pl d s1 k' p' = X k' p' := by simp [EM.mrg, hs']
        rw [hX'] at hj' ⊢
        rcases M.past hs' with ⟨_, h1⟩ | ⟨e', cs0, cs', h1, _⟩
        · rw [h1] at hb'; cases hb'
        · exact M.H.apart _ _ _ _ hbs (by rw [h1]; rfl) ho2 hne j j' hj hj'
  clean := fun k r hg hk x hx => by
    obtain ⟨s3, G, cD, hr⟩ := M.mg
    cases hn : newK d s1 k with
    | some K =>
      obtain ⟨_, R, h1, _, h2⟩ := M.newNone hn
      rw [h2] at hg
      cases hg
      rw [mapR_kd] at hk
      unfold mapR at hx
      rw [if_neg hk] at hx
      exact M.H1.clean K R h1 hk x hx
    | none =>
      rw [(resL_spec hr).2 k hn] at hg
      exact G.clean k r hg hk x hx
  cleanD := fun k p i e cs hb x hx => by
    obtain ⟨s3, G, cD, hr⟩ := M.mg
    cases hn : newK d s1 k with
    | some K =>
      rw [M.src (k := k) (q := i :: p) (K := K) (q' := i :: p) (by simp [srcK, hn])] at hb
      obtain ⟨⟨e1, cs1⟩, h1, h2⟩ := Option.map_eq_some_iff.1 hb
      simp only [Prod.mk.injEq] at h2
      rw [← h2.2] at hx
      obtain ⟨x1, hx1, rfl⟩ := List.mem_map.1 hx
      exact cln_mapN (M.H1.cleanD K p i _ _ h1 x1 hx1)
    | none =>
      rw [blkS_get_eq ((resL_spec hr).2 k hn) (i :: p)] at hb
      exact cD k i p e cs hb x hx
end
end Go.AK


/- Calls: what a callee is shown, what comes back; functions. Conditions: none. -/
set_option linter.unusedSimpArgs false
set_option linter.unusedVariables false
namespace Go.AK
open Go

/-- What a function gives back: its result, the blocks, the arguments turned. -/
structure Out where
  v : AV
  s : Sto
  ma : List Nat
  mb : List Nat

/-- A function at arguments that look so, in a store that looks so: it comes back, and what it gives back is so. -/
def Tri (P : Program) (f : FuncId) (avs : List AV) (s0 : Sto) (Φ : Out → Prop) : Prop := ∀ X w vs, HRel X s0 w → all2 (VA X s0) avs vs → GX X s0 w →
  Calls P f vs.toArray w fun e w' => ∃ o X' v, Φ o ∧ e = .returned v ∧ HRel X' o.s w' ∧ VA X' o.s o.v v ∧ Fr X s0 w w' ∧ Foot X s0 w X' o.s ∧ Keep X s0 X' o.s o.ma o.mb

theorem Tri.mono {P : Program} {f : FuncId} {avs : List AV} {s0 : Sto} {Φ Φ' : Out → Prop} (h : Tri P f avs s0 Φ) (hq : ∀ o, Φ o → Φ' o) : Tri P f avs s0 Φ' := fun X w vs H hv hg =>
  (h X w vs H hv hg).mono fun _ _ ⟨o, X', v, h1, h2⟩ => ⟨o, X', v, hq o h1, h2⟩

def upM (l : List Nat) : Pls → List Nat → List Nat
  | [], acc => acc
  | (K, P) :: r, acc => upM l r (if memK l K = true then addL acc P.k else acc)

theorem addL_mem {l : List Nat} {k : Key} {j : Nat} : j ∈ addL l k ↔ j ∈ l ∨ k = .arg j := by
  unfold addL
  cases k with
  | arg i => simp only [Key.arg.injEq]; split <;> simp_all <;> (try constructor) <;> (try (rintro (h | h) <;> simp_all)) <;> (try (intro h; rcases h with h | h <;> simp_all))
  | res i => simp
  | tmp t i => simp
theorem upM_mem {l : List Nat} {j : Nat} : ∀ {pl : Pls} {acc : List Nat}, (j ∈ acc → j ∈ upM l pl acc) ∧ ∀ K P, pl.get K = some P → memK l K = true → P.k = .arg j → j ∈ upM l pl acc
  | [], acc => ⟨id, fun K P h => by cases h⟩
  | (K1, P1) :: r, acc => by
    have ih := upM_mem (l := l) (j := j) (pl := r) (acc := if memK l K1 = true then addL acc P1.k else acc)
    refine ⟨fun h => ih.1 (by split; exact addL_mem.2 (.inl h); exact h), fun K P hg hm hk => ?_⟩
    simp only [Pls.get] at hg
    split at hg
    · rename_i hkk
      cases hg
      subst hkk
      exact ih.1 (by rw [if_pos hm]; exact addL_mem.2 (.inr hk))
    · exact ih.2 K P hg hm hk

/-- The conditions on what comes back. -/
def backOk (pl : Pls) (s0 : Sto) (o : Out) : Prop := ∀ K P, (K, P) ∈ pl → (memK o.mb K = true → P.rng = none ∧ P.p = []) ∧ ∀ R1, o.s.get K = some R1 → R1.kd = .fz → s0.get K = some R1 ∧ memK o.ma K = false ∧ memK o.mb K = false
def argsOnly : Pls → Bool
  | [] => true
  | (.arg _, _) :: r => argsOnly r
  | _ => false
theorem argsOnly_get : ∀ {pl : Pls}, argsOnly pl = true → ∀ {K P}, pl.get K = some P → ∃ j, K = .arg j
  | [], _, K, P, h => by cases h
  | (.arg j, P1) :: r, h, K, P, hg => by
    simp only [Pls.get] at hg
    split at hg
    · rename_i hk; exact ⟨j, hk.symm⟩
    · exact argsOnly_get (show argsOnly r = true from h) hg
  | (.res j, P1) :: r, h, K, P, hg => by cases h
  | (.tmp t j, P1) :: r, h, K, P, hg => by cases h

theorem foc_ownC {X : EM} {s s0 : Sto} {w : World} {pl : Pls} (H : HRel X s w) (h0 : foc s pl = some s0) {a : Addr} (h : ownC (X.foc pl) s0 a) : ownC X s a := by
  obtain ⟨K, q, j, ho, hb, hj, rfl⟩ := h
  obtain ⟨⟨e, c⟩, hb⟩ := Option.isSome_iff_exists.1 hb
  obtain ⟨P, cs, hK, h1, h2, h3, h4, _⟩ := foc_up H h0 hb
  obtain ⟨P', hP', hown⟩ := foc_owned H h0 ho
  rw [hK] at hP'
  cases hP'
  exact ⟨P.k, _, (upP P q).2 + j, hown, by rw [h1]; rfl, by omega, (EM.foc_at X hK q j).symm⟩

section
variable {X : EM} {s : Sto} {w : World} {pl : Pls} {s0 : Sto} {X1 : EM} {s1 : Sto} {w' : World} {ma mb : List Nat} {d : Option Tmp} {s4 : Sto}

theorem MH.stp (M : MH X s w pl s0 X1 s1 w' ma mb d s4) : Stp X s w (X.mrg X1 pl d s1) s4 w' (mapN (killNm pl ma mb)) (upM ma pl []) (upM mb pl []) where
  rel := M.rel
  vc := fun x v hv => VC_map M.kill_ok hv
  fr :=
    { os := M.F.os
      tape := M.F.tape
      output := M.F.output
      size := M.F.size
      cell := fun a ha hn => M.F.cell a ha fun ho => hn (foc_ownC M.H M.h0 ho)
      frozen := M.F.frozen
      block := fun b hb hn => M.F.block b hb fun o ho => hn o (foc_ownC M.H M.h0 ho) }
  foot := by
    rintro a ⟨k, q, j, ho, hb, hj, rfl⟩
    cases hs : srcK pl d s1 k q with
    | some y =>
      obtain ⟨K, r⟩ := y
      have hX : X.mrg X1 pl d s1 k q = X1 K r := by simp [EM.mrg, hs]
      rw [hX] at hj ⊢
      rw [M.src hs, Option.isSome_map] at hb
      by_cases h1 : s1.owned K
      · exact (M.Ft _ ⟨K, r, j, h1, hb, hj, rfl⟩).imp (foc_ownC M.H M.h0) id
      · obtain ⟨hn, hbs, hX1⟩ := M.src_fz hs hb h1
        rw [hX1] at hj ⊢
        rcases M.owned ho with ⟨K', hK', _⟩ | ⟨_, ho2⟩
        · rw [hn] at hK'; cases hK'
        · exact .inl ⟨k, q, j, ho2, hbs, hj, rfl⟩
    | none =>
      have hX : X.mrg X1 pl d s1 k q = X k q := by simp [EM.mrg, hs]
      obtain ⟨hn, hf⟩ := srcK_none hs
      rw [hX] at hj ⊢
      rcases M.owned ho with ⟨K', hK', _⟩ | ⟨_, ho2⟩
      · rw [hn] at hK'; cases hK'
      · rcases M.past hs with ⟨_, h1⟩ | ⟨e', cs0, cs', h1, _⟩
        · rw [h1] at hb; cases hb
        · exact .inl ⟨k, q, j, ho2, by rw [h1]; rfl, hj, rfl⟩
  k1 := fun j ha hb q => by
    refine M.tr_keep ?_
    have : ∀ (r : Pls), (∀ K P, (K, P) ∈ r → pl.get K = some P) → badN ma mb r (.arg j) q = false := fun r => by
      induction r with
      | nil => intro _; rfl
      | cons y r ih =>
        intro hr
        obtain ⟨K, P⟩ := y
        have hg := hr K P List.mem_cons_self
        simp only [badN, Bool.or_eq_false_iff]
        refine ⟨?_, ih fun K P h => hr K P (List.mem_cons_of_mem _ h)⟩
        by_cases hk : P.k = .arg j
        · have h1 : memK ma K = false := by
            cases hh : memK ma K with
            | false => rfl
            | true => exact absurd (upM_mem.2 K P hg hh hk) ha
          have h2 : memK mb K = false := by
            cases hh : memK mb K with
            | false => rfl
            | true => exact absurd (upM_mem.2 K P hg hh hk) hb
          simp [h1, h2]
        · simp [isAt, isU, hk]
    refine this pl fun K P h => ?_
    have : ∀ {l : Pls}, indep l = true → (K, P) ∈ l → l.get K = some P := fun {l} => by
      induction l with
      | nil => intro _ h; cases h
      | cons y l ih =>
        intro hi hm
        obtain ⟨K1, P1⟩ := y
        simp only [indep, Bool.and_eq_true, List.all_eq_true, decide_eq_true_eq] at hi
        rcases List.mem_cons.1 hm with hh | hh
        · cases hh; simp
        · rw [Pls.get, if_neg fun e => (hi.1 _ hh).1 e.symm]; exact ih hi.2 hh
    exact this M.hi h
  k2 := fun j hb => by
    refine M.tr_keep ?_
    have : ∀ (r : Pls), (∀ K P, (K, P) ∈ r → pl.get K = some P) → badN ma mb r (.arg j) [] = false := fun r => by
      induction r with
      | nil => intro _; rfl
      | cons y r ih =>
        intro hr
        obtain ⟨K, P⟩ := y
        have hg := hr K P List.mem_cons_self
        simp only [badN, Bool.or_eq_false_iff]
        refine ⟨?_, ih fun K P h => hr K P (List.mem_cons_of_mem _ h)⟩
        have hu : isU P (.arg j) [] = false := by
          cases hp : P.p <;> simp [isU, hp]
        by_cases hk : P.k = .arg j
        · have h2 : memK mb K = false := by
            cases hh : memK mb K with
            | false => rfl
            | true => exact absurd (upM_mem.2 K P hg hh hk) hb
          simp [hu, h2]
        · simp [isAt, hu, hk]
    refine this pl fun K P h => ?_
    have : ∀ {l : Pls}, indep l = true → (K, P) ∈ l → l.get K = some P := fun {l} => by
      induction l with
      | nil => intro _ h; cases h
      | cons y l ih =>
        intro hi hm
        obtain ⟨K1, P1⟩ := y
        simp only [indep, Bool.and_eq_true, List.all_eq_true, decide_eq_true_eq] at hi
        rcases List.mem_cons.1 hm with hh | hh
        · cases hh; simp
        · rw [Pls.get, if_neg fun e => (hi.1 _ hh).1 e.symm]; exact ih hi.2 hh
    exact this M.hi h
end

theorem all2_map {α β γ : Type} {R : α → β → Prop} {f : γ → α} {g : γ → β} : ∀ (l : List γ), (∀ x, R (f x) (g x)) → all2 R (l.map f) (l.map g)
  | [], _ => trivial
  | a :: l, h => ⟨h a, all2_map l h⟩

/-- The state behind a call. -/
def afterCall (st : St) (pl : Pls) (d : Option Tmp) (o : Out) (s4 : Sto) : St :=
  putD ⟨st.t.mapT (mapN (killNm pl o.ma o.mb)), s4, upM o.ma pl st.ma, upM o.mb pl st.mb⟩ d (mapA (mapN (bwd pl d)) o.v)

theorem mapNA_eq (f : Nm) (x : AV) : mapNA f x = mapA (mapN f) x := by cases x <;> rfl

theorem callK_of {P : Program} {N : Nat} {d : Option Tmp} {f : FuncId} {args : List Operand} {K : St → Prop} {st : St} (pl : Pls) {s0 : Sto} {Φ : Out → Prop} (hd : ∀ t, d = some t → t < N)
    (hi : indep pl = true) (ha : argsOnly pl = true) (h0 : foc st.s pl = some s0)
    (T : Tri P f (args.map fun o => mapA (mapN (fwd pl)) (evo st.t o)) s0 Φ)
    (h : ∀ o, Φ o → backOk pl s0 o ∧ ∃ s4, mrg st.s o.s pl o.ma o.mb d = some s4 ∧ K (afterCall st pl d o s4)) : callK P N d f args K st := fun B a w ⟨X, I⟩ => by
  have H0 := I.rel.foc hi h0
  refine (T (X.foc pl) w (args.map a.eval) H0 (all2_map args fun o => ?_) ⟨I.gx.cell, fun h ho => I.gx.own h (foc_ownC I.rel h0 ho)⟩).mono ?_
  · rw [← mapNA_eq]; exact VA_mapN (fwd_ok I.rel hi h0) (I.ev o)
  · rintro e w' ⟨o, X1, v, ho, rfl, H1, hv, F, Ft, Kp⟩
    obtain ⟨hok, s4, hm, hK⟩ := h o ho
    have mem : ∀ {K P}, pl.get K = some P → (K, P) ∈ pl := fun hg => Pls.mem hg
    have M : MH X st.s w pl s0 X1 o.s w' o.ma o.mb d s4 :=
      { H := I.rel, hi := hi, h0 := h0, H1 := H1, F := F, Ft := Ft, c1 := fun K P hg => (hok K P (mem hg)).1, c2 := fun K P hg => (hok K P (mem hg)).2, c3 := fun K P hg => argsOnly_get ha hg, hm := hm
        keep := fun K P hg => by
          obtain ⟨j, rfl⟩ := argsOnly_get ha hg
          have e1 : ∀ l : List Nat, memK l (.arg j) = false ↔ j ∉ l := fun l => by simp [memK]
          exact ⟨fun h1 h2 => (Kp j).1 ((e1 _).1 h1) ((e1 _).1 h2), fun h2 => (Kp j).2 ((e1 _).1 h2)⟩ }
    have I2 := I.step M.stp rfl (ma' := upM o.ma pl st.ma) (mb' := upM o.mb pl st.mb) (fun j hj => ?_) (fun j hj => ?_)
    · have hv2 := VA_mapN M.bwd_ok hv
      rw [mapNA_eq] at hv2
      refine ⟨v, _, rfl, hK, X.mrg X1 pl d o.s, ?_⟩
      unfold afterCall
      cases d with
      | none => exact I2
      | some t => exact I2.put (hd t rfl) hv2
    all_goals
      rcases hj with hj | hj
      · exact upM_mem.1 hj
      · have : ∀ (l : List Nat) (r : Pls) (acc acc' : List Nat), (∀ j, j ∈ acc → j ∈ acc') → j ∈ upM l r acc → j ∈ upM l r acc' := fun l r => by
          induction r with
          | nil => intro acc acc' h hh; exact h _ hh
          | cons y r ih =>
            intro acc acc' h hh
            refine ih _ _ (fun j hj => ?_) hh
            split at hj
            · rename_i hm; rw [if_pos hm]; rcases addL_mem.1 hj with h1 | h1
              · exact addL_mem.2 (.inl (h j h1))
              · exact addL_mem.2 (.inr h1)
            · rename_i hm; rw [if_neg hm]; exact h j hj
        exact this _ pl [] _ (fun j h => by cases h) hj
end Go.AK


/- Functions: from the body's walk to what the function gives back. Conditions: none. -/
set_option linter.unusedSimpArgs false
set_option linter.unusedVariables false
namespace Go.AK
open Go

inductive RV where
  | tmp (t : Tmp)
  | cell (a : Tmp) (ag : Bool) (sz : Nat)
def rvOf (P : Program) : ResultVar → Option RV
  | .tmp t => some (.tmp t)
  | .cell a t => match aggOf P t, szOf P t with
    | some ag, some sz => some (.cell a ag sz)
    | _, _ => none
def rvsOf (P : Program) : List ResultVar → Option (List RV)
  | [] => some []
  | r :: l => match rvOf P r, rvsOf P l with
    | some x, some y => some (x :: y)
    | _, _ => none
def resV (st : St) : RV → Option AV
  | .tmp t => some (st.t.get t)
  | .cell a ag sz => aval st (.load 0 ag sz (.tmp a))
def toT : AV → Option (Bool × List Cell)
  | .c x => some (false, [x])
  | .g xs => some (true, xs)
  | .tup _ => none
def resVs (st : St) : List RV → Option (List (Bool × List Cell))
  | [] => some []
  | r :: l => match (resV st r).bind toT, resVs st l with
    | some x, some y => some (x :: y)
    | _, _ => none
def resAV (st : St) : List RV → Option AV
  | [r] => resV st r
  | l => (resVs st l).map .tup

section
variable {P : Program} {B : Base} {N : Nat} {X : EM} {st : St} {a : Act} {w : World}
def rdVar (tmps : Array Value) : ResultVar → Sem Value
  | .tmp t => pure (tmps.getD t undef)
  | .cell a t => do loadVar t (← asAddr (tmps.getD a undef))

theorem rdVar_spec (I : InvX B N X st a w) {r : ResultVar} {x : RV} (hr : rvOf P r = some x) {av : AV} (h : resV st x = some av) : ∃ v, (rdVar a.tmps r).run P w = .ok v w ∧ VA X st.s av v := by
  cases r with
  | tmp t => cases hr; cases h; exact ⟨_, rfl, I.tmps t⟩
  | cell p t =>
    simp only [rvOf] at hr
    split at hr
    · rename_i ag sz hag hz
      cases hr
      simp only [resV, aval] at h
      have hI := I.ev (.tmp p)
      split at h
      · rename_i k q c hx
        rw [hx] at hI
        obtain ⟨e', cs', h1, h2, h3⟩ := hI
        have h3' : a.tmps.getD p undef = .pointer (some ((X k q).at c)) := h3
        have hr1 := run_aggOf hag w
        have hr2 := run_szOf hz w
        split at h
        · rename_i e cs hb
          cases ag with
          | true =>
            simp only [if_true] at h
            split at h
            · rename_i hlen
              cases h
              obtain ⟨vs, h4, h5⟩ := I.rel.reads hb ((cs.drop c).take sz) c (fun i y hy => by
                rw [List.getElem?_take] at hy
                split at hy
                · rwa [List.getElem?_drop] at hy
                · cases hy)
              have hvl : vs.length = sz := by
                have := h5.length
                have h6 : ∀ (k : Key) (p : List Nat) (l : List Cell) (c : Nat), (lookL k p c l).length = l.length := fun k p l => by
                  induction l with
                  | nil => intro c; rfl
                  | cons y l ih => intro c; simp [ih]
                rw [h6, hlen] at this
                exact this.symm
              refine ⟨.agg vs.toArray, ?_, vs, rfl, h5⟩
              have hlc := run_loadCells_list (P := P) w ((X k q).at c) vs (fun j v hv => by rw [Ext.at_add]; exact h4 j v hv)
              rw [hvl] at hlc
              simp only [rdVar, h3']
              simp [asAddr, loadVar, hr1, hr2, hlc]
            · cases h
          | false =>
            simp only [Bool.false_eq_true, if_false] at h
            split at h
            · rename_i y hy
              cases h
              obtain ⟨v, h4, h5⟩ := I.rel.read hb hy
              refine ⟨v, ?_, h5⟩
              simp only [rdVar, h3']
              simp [asAddr, loadVar, hr1, h4]
            · cases h
        · cases h
      · cases h
    · cases hr

theorem rdVars_spec (I : InvX B N X st a w) : ∀ {rs : List ResultVar} {xs : List RV} {l : List (Bool × List Cell)}, rvsOf P rs = some xs → resVs st xs = some l →
    ∃ vs, (rs.mapM (rdVar a.tmps)).run P w = .ok vs w ∧ all2 (VT X st.s) l vs
  | [], xs, l, hr, h => by cases hr; cases h; exact ⟨[], rfl, trivial⟩
  | r :: rs, xs, l, hr, h => by
    simp only [rvsOf] at hr
    split at hr
    · rename_i x y hx hy
      cases hr
      simp only [resVs] at h
      split at h
      · rename_i tx ly htx hly
        cases h
        obtain ⟨av, h1, h2⟩ := Option.bind_eq_some_iff.1 htx
        obtain ⟨v, h3, h4⟩ := rdVar_spec (P := P) I hx h1
        obtain ⟨vs, h5, h6⟩ := rdVars_spec I hy hly
        refine ⟨v :: vs, by simp [h3, h5], ?_, h6⟩
        cases av with
        | c x => cases h2; exact ⟨x, rfl, h4⟩
        | g xs => cases h2; exact h4
        | tup l => cases h2
      · cases h
    · cases hr

theorem res_spec (I : InvX B N X st a w) {fn : Func} {xs : List RV} (hr : rvsOf P fn.results.toList = some xs) {av : AV} (h : resAV st xs = some av) : ∃ v, (results fn a.tmps).run P w = .ok v w ∧ VA X st.s av v := by
  have e1 : results fn a.tmps = (do
      let vs ← (List.toArray <$> fn.results.toList.mapM (rdVar a.tmps))
      pure (if h : vs.size = 1 then vs[0] else .tuple vs)) := by
    unfold results
    rw [Array.mapM_eq_mapM_toList]
    rfl
  rw [e1]
  cases hl : fn.results.toList with
  | nil =>
    rw [hl] at hr
    cases hr
    cases h
    exact ⟨.tuple #[], by simp, [], rfl, trivial⟩
  | cons r rs =>
    rw [hl] at hr
    cases rs with
    | nil =>
      simp only [rvsOf] at hr
      split at hr
      · rename_i x y hx hy
        cases hy
        cases hr
        obtain ⟨v, h1, h2⟩ := rdVar_spec (P := P) I hx (show resV st x = some av from h)
        exact ⟨v, by simp [h1], h2⟩
      · cases hr
    | cons r' rs =>
      have h' : (resVs st xs).map AV.tup = some av := by
        simp only [rvsOf] at hr
        split at hr
        · rename_i x y hx hy
          cases hr
          split at hy
          · cases hy; exact h
          · cases hy
        · cases hr
      obtain ⟨l, h1, rfl⟩ := Option.map_eq_some_iff.1 h'
      obtain ⟨vs, h2, h3⟩ := rdVars_spec (P := P) I hr h1
      have hlen : vs.length ≠ 1 := by
        have hv := h3.length
        have : ∀ {rs : List ResultVar} {xs : List RV} {l : List (Bool × List Cell)}, rvsOf P rs = some xs → resVs st xs = some l → l.length = rs.length := fun {rs} => by
          induction rs with
          | nil => intro xs l h1 h2; cases h1; cases h2; rfl
          | cons a rs ih =>
            intro xs l h1 h2
            simp only [rvsOf] at h1
            split at h1
            · rename_i x y hx hy
              cases h1
              simp only [resVs] at h2
              split at h2
              · rename_i tx ly htx hly; cases h2; simp [ih hy hly]
              · cases h2
            · cases h1
        have h4 := this hr h1
        simp at h4
        omega
      refine ⟨.tuple vs.toArray, ?_, vs, rfl, h3⟩
      generalize List.mapM (rdVar a.tmps) (r :: r' :: rs) = m at h2 ⊢
      simp [h2, hlen]
end

def initT : Nat → List AV → Tm
  | _, [] => []
  | i, a :: l => (i, a) :: initT (i + 1) l
def argPl : Sto → Pls
  | [] => []
  | (k, R) :: r => (k, ⟨k, [], none, R.kd⟩) :: argPl r
def resPl : Nat → List Plc → Pls
  | _, [] => []
  | i, P :: r => (.res i, P) :: resPl (i + 1) r
def outPl (s0 : Sto) (ex : List Plc) : Pls := argPl s0 ++ resPl 0 ex
/-- What holds where a body ends. -/
def endK (s0 : Sto) (xs : List RV) (Φ : Out → Prop) (st : St) : Prop := ∃ av, resAV st xs = some av ∧ ∃ ex s1, indep (outPl s0 ex) = true ∧ foc st.s (outPl s0 ex) = some s1 ∧
  Φ ⟨mapA (mapN (fwd (outPl s0 ex))) av, s1, st.ma, st.mb⟩
def bodyK (s0 : Sto) (xs : List RV) (Φ : Out → Prop) : AE → St → Prop
  | .nrm, st => endK s0 xs Φ st
  | .ret, st => endK s0 xs Φ st
  | .exit _, _ => False

theorem argPl_get : ∀ {s0 : Sto} {k : Key} {R : Root} (ex : List Plc), s0.get k = some R → Pls.get (outPl s0 ex) k = some ⟨k, [], none, R.kd⟩
  | [], k, R, ex, h => by cases h
  | (k1, R1) :: r, k, R, ex, h => by
    simp only [Sto.get] at h
    show Pls.get ((k1, _) :: outPl r ex) k = _
    simp only [Pls.get]
    split at h
    · rename_i hk; cases h; rw [if_pos hk, hk]
    · rename_i hk; rw [if_neg hk]; exact argPl_get ex h

theorem tri_of_body {P : Program} {f : FuncId} {fn : Func} {c : Code} {ac : AC} {xs : List RV} (hf : P.funcs[f]? = some fn) (hb : fn.body = some c) (hc : compC P fn.ntmps ac c = some ac.erase) (hx : rvsOf P fn.results.toList = some xs)
    {avs : List AV} (hl : avs.length ≤ fn.ntmps) {s0 : Sto} {Φ : Out → Prop} (h : awc P fn.ntmps ac (bodyK s0 xs Φ) ⟨initT 0 avs, s0, [], []⟩) : Tri P f avs s0 Φ := fun X w vs H hv hgx => by
  refine calls_of_wp hf hb ?_
  have hvl := hv.length
  have I0 : Inv ⟨X, s0, w⟩ fn.ntmps ⟨initT 0 avs, s0, [], []⟩ { tmps := vs.toArray ++ Array.replicate (fn.ntmps - vs.toArray.size) undef, defers := [] } w :=
    ⟨X, { rel := H, gb := hgx, size := by simp; omega, defers := rfl, fr := Fr.refl _ _ _, foot := Foot.refl _ _ _, keep := fun j => ⟨fun _ _ q => Tr.refl _ _ _ _, fun _ => Tr.refl _ _ _ _⟩
          tmps := fun i => by
            have key : ∀ (avs : List AV) (vs : List Value) (n i : Nat), all2 (VA X s0) avs vs → (Tm.get (initT n avs) i = .c .dead ∨ ∃ v, n ≤ i ∧ vs[i - n]? = some v ∧ VA X s0 (Tm.get (initT n avs) i) v) := fun avs => by
              induction avs with
              | nil => intro vs n i _; exact .inl rfl
              | cons av avs ih =>
                intro vs n i h
                cases vs with
                | nil => exact h.elim
                | cons v vs =>
                  show (if n = i then av else Tm.get (initT (n + 1) avs) i) = _ ∨ ∃ v', _ ∧ _ ∧ VA X s0 (if n = i then av else Tm.get (initT (n + 1) avs) i) v'
                  by_cases hn : n = i
                  · subst hn; rw [if_pos rfl]; exact .inr ⟨v, Nat.le_refl _, by simp, h.1⟩
                  · rw [if_neg hn]
                    rcases ih vs (n + 1) i h.2 with h1 | ⟨v', h1, h2, h3⟩
                    · exact .inl h1
                    · refine .inr ⟨v', by omega, ?_, h3⟩
                      have : i - n = (i - (n + 1)) + 1 := by omega
                      rw [this]; simpa using h2
            show VA X s0 (Tm.get (initT 0 avs) i) _
            rcases key avs vs 0 i hv with h1 | ⟨v, _, h2, h3⟩
            · rw [h1]; trivial
            · have : (vs.toArray ++ Array.replicate (fn.ntmps - vs.toArray.size) undef).getD i undef = v := by
                have hi := getElem?_len h2
                simp at hi h2
                simp [Array.getD, Array.getElem_append]
                have : i < vs.length + (fn.ntmps - vs.length) := by omega
                simp [this, hi]
                rw [List.getElem?_eq_getElem hi] at h2
                exact Option.some.inj h2
              rw [this]; exact h3 }⟩
  have hw := awc_sound ac c _ _ _ _ hc h I0
  refine wp_mono hw ?_
  rintro e a' w' ⟨ae, st, he, hk, X', I⟩
  have fin : endK s0 xs Φ st → a'.defers = [] ∧ ∃ v, (results fn a'.tmps).run P w' = .ok v w' ∧ ∃ o X' v', Φ o ∧ Ending.returned v = .returned v' ∧ HRel X' o.s w' ∧ VA X' o.s o.v v' ∧ Fr X s0 w w' ∧ Foot X s0 w X' o.s ∧ Keep X s0 X' o.s o.ma o.mb := by
    rintro ⟨av, h1, ex, s1, h2, h3, h4⟩
    obtain ⟨v, h5, h6⟩ := res_spec (P := P) I hx h1
    refine ⟨I.defers, v, h5, _, X'.foc (outPl s0 ex), v, h4, rfl, I.rel.foc h2 h3, ?_, I.fr, fun a ha => I.foot a (foc_ownC I.rel h3 ha), fun j => ?_⟩
    · rw [← mapNA_eq]; exact VA_mapN (fwd_ok I.rel h2 h3) h6
    · have tr : ∀ q, Tr X s0 (.arg j) q X' st.s (.arg j) q → Tr X s0 (.arg j) q (X'.foc (outPl s0 ex)) s1 (.arg j) q := fun q t e cs hb => by
        obtain ⟨R, hR⟩ := Option.isSome_iff_exists.1 (blkS_get (s := s0) (k := .arg j) (q := q) (by rw [hb]; rfl))
        have hg := argPl_get ex hR
        refine (t.trans (fwd1_tr I.rel h3 hg ?_)) e cs hb
        have := fwd1_up (P := ⟨.arg j, [], none, R.kd⟩) (q := q) (fun _ => rfl) (fun _ _ _ => rfl)
        have e2 : (upP ⟨.arg j, [], none, R.kd⟩ q).1 = q := by cases q <;> simp [upP]
        rw [e2] at this
        exact this
      exact ⟨fun h7 h8 q => tr q ((I.keep j).1 h7 h8 q), fun h8 => tr [] ((I.keep j).2 h8)⟩
  cases e <;> cases ae <;> simp only [ER] at he
  · exact fin hk
  · exact hk.elim
  · exact fin hk
end Go.AK


/- A state may be told less of: temporaries forgotten, roots renamed, empty slices given a place. Conditions: none. -/
set_option linter.unusedSimpArgs false
set_option linter.unusedVariables false
namespace Go.AK
open Go

theorem Weak.keep {N : Nat} {st : St} (ts : List Tmp) : Weak N st (st.keep ts) := fun _ _ _ I => I.keep ts
theorem Weak.drop {N : Nat} {st : St} (ks : List Key) : Weak N st (st.dropK ks) := fun _ _ _ I => I.dropK ks
theorem Weak.of_eq {N : Nat} {st st' : St} (h : st = st') : Weak N st st' := h ▸ Weak.refl N st
theorem Weak.mark {N : Nat} {st : St} (ma mb : List Nat) (ha : ∀ j ∈ st.ma, j ∈ ma) (hb : ∀ j ∈ st.mb, j ∈ mb) : Weak N st ⟨st.t, st.s, ma, mb⟩ := fun B a w ⟨X, I⟩ =>
  ⟨X, ⟨I.rel, I.tmps, I.size, I.defers, I.fr, I.foot, I.keep.step ha hb (fun j _ _ q => Tr.refl _ _ _ _) (fun j _ => Tr.refl _ _ _ _), I.gb⟩⟩

/-- The arguments' roots keep their names. -/
def argK (pl : Pls) : Sto → Prop
  | [] => True
  | (.arg j, R) :: r => pl.get (.arg j) = some ⟨.arg j, [], none, R.kd⟩ ∧ argK pl r
  | _ :: r => argK pl r
theorem argK_get {pl : Pls} : ∀ {s : Sto}, argK pl s → ∀ {j : Nat} {R : Root}, s.get (.arg j) = some R → pl.get (.arg j) = some ⟨.arg j, [], none, R.kd⟩
  | (k, R0) :: r, h, j, R, hg => by
    simp only [Sto.get] at hg
    split at hg
    · rename_i hk; cases hg; subst hk; exact h.1
    · cases k with
      | arg i => exact argK_get h.2 hg
      | res i => exact argK_get (s := r) h hg
      | tmp t i => exact argK_get (s := r) h hg
  | [], _, _, _, hg => by cases hg

theorem Weak.foc {N : Nat} {st : St} (pl : Pls) {s1 : Sto} (hi : indep pl = true) (h0 : foc st.s pl = some s1) (hk : argK pl st.s) : Weak N st ⟨st.t.mapT (mapN (fwd pl)), s1, st.ma, st.mb⟩ := fun B a w ⟨X, I⟩ => by
  have tr : ∀ j q, Tr X st.s (.arg j) q (X.foc pl) s1 (.arg j) q := fun j q e cs hb => by
    obtain ⟨R, hR⟩ := Option.isSome_iff_exists.1 (blkS_get (s := st.s) (k := .arg j) (q := q) (by rw [hb]; rfl))
    have hg := argK_get hk hR
    refine (fwd1_tr I.rel h0 hg ?_) e cs hb
    have := fwd1_up (P := ⟨.arg j, [], none, R.kd⟩) (q := q) (fun _ => rfl) (fun _ _ _ => rfl)
    have e2 : (upP ⟨.arg j, [], none, R.kd⟩ q).1 = q := by cases q <;> simp [upP]
    rw [e2] at this
    exact this
  refine ⟨X.foc pl, ⟨I.rel.foc hi h0, fun i => ?_, I.size, I.defers, I.fr, fun a ha => I.foot a (foc_ownC I.rel h0 ha), I.keep.step (fun j h => h) (fun j h => h) (fun j _ _ q => tr j q) (fun j _ => tr j []), I.gb⟩⟩
  rw [Tm.get_mapT _ _ _ (by rfl), ← mapNA_eq]
  exact VA_mapN (fwd_ok I.rel hi h0) (I.tmps i)

theorem nm_root {B : Base} {N : Nat} {X : EM} {st : St} {a : Act} {w : World} (I : InvX B N X st a w) {K : Key} (e : Nat) (hK : st.s.get K = none) :
    InvX B N (X.lay K ⟨w.heap.size, 0, 0⟩) ⟨st.t, st.s.set K ⟨.lst, e, []⟩, st.ma, st.mb⟩ a w := by
  have S := Stp.new (w' := w) I.rel hK (r := ⟨.lst, e, []⟩) (x := ⟨w.heap.size, 0, 0⟩) (fun x hx => by cases hx) (by simp) (fun _ y hy => by cases hy) (Fr.refl _ _ _) (fun a _ => ⟨rfl, rfl⟩) (Nat.le_refl _)
    (by simp) (fun j hj => by simp at hj) (fun i y hy => by simp at hy)
  have := I.step S rfl (ma' := st.ma) (mb' := st.mb) (fun j h => by simpa using h) (fun j h => by simpa using h)
  rwa [mapT_id] at this
theorem nil_ref (X : EM) (s : Sto) (K : Key) (e : Nat) : VC X (s.set K ⟨.lst, e, []⟩) (.ref K [] 0 0) (.slice none 0 0) :=
  ⟨e, [], 0, none, by simp [Sto.blkS, Sto.blk, Sto.get_set, shB], by simp, Nat.le_refl _, rfl, .inl rfl⟩
/-- The empty slice in a temporary gets a root. -/
theorem Weak.nm {N : Nat} {st : St} (t : Tmp) (K : Key) (e : Nat) (hK : st.s.get K = none) (ht : st.t.get t = .c (.sc (.slice none 0 0))) :
    Weak N st ⟨st.t.set t (.c (.ref K [] 0 0)), st.s.set K ⟨.lst, e, []⟩, st.ma, st.mb⟩ := fun B a w ⟨X, I⟩ => by
  have I' := nm_root I e hK
  refine ⟨_, ⟨I'.rel, fun i => ?_, I'.size, I'.defers, I'.fr, I'.foot, I'.keep, I'.gb⟩⟩
  rw [Tm.get_set]
  by_cases h : t = i
  · subst h
    rw [if_pos rfl]
    have h1 := I.tmps t
    rw [ht] at h1
    rw [h1.1]
    exact nil_ref _ _ _ _
  · rw [if_neg h]; exact I'.tmps i
theorem all2_setv {α β : Type} {R : α → β → Prop} {l : List α} {m : List β} (h : all2 R l m) {i : Nat} {x : α} (hx : ∀ b, m[i]? = some b → R x b) : all2 R (l.set i x) m := by
  induction l generalizing m i with
  | nil => cases m <;> simp_all [all2]
  | cons a l ih => cases m with
    | nil => simp [all2] at h
    | cons b m => cases i with
      | zero => exact ⟨hx b rfl, h.2⟩
      | succ i => exact ⟨h.1, ih h.2 (fun b' hb => hx b' (by simpa using hb))⟩
theorem Weak.nmg {N : Nat} {st : St} (t : Tmp) (i : Nat) (K : Key) (e : Nat) {xs : List Cell} (hK : st.s.get K = none) (ht : st.t.get t = .g xs) (hx : xs[i]? = some (.sc (.slice none 0 0))) :
    Weak N st ⟨st.t.set t (.g (xs.set i (.ref K [] 0 0))), st.s.set K ⟨.lst, e, []⟩, st.ma, st.mb⟩ := fun B a w ⟨X, I⟩ => by
  have I' := nm_root I e hK
  refine ⟨_, ⟨I'.rel, fun j => ?_, I'.size, I'.defers, I'.fr, I'.foot, I'.keep, I'.gb⟩⟩
  rw [Tm.get_set]
  by_cases h : t = j
  · subst h
    rw [if_pos rfl]
    have h1 := I'.tmps t
    have h1 : VA _ _ (st.t.get t) _ := h1
    rw [ht] at h1
    obtain ⟨vs, h2, h3⟩ := h1
    refine ⟨vs, h2, all2_setv h3 fun b hb => ?_⟩
    obtain ⟨b', hb', hv⟩ := h3.get hx
    rw [hb] at hb'
    cases hb'
    rw [hv.1]
    exact nil_ref _ _ _ _
  · rw [if_neg h]; exact I'.tmps j

/-! ### empty slices in memory, as owned -/
/-- Cells of the second may own nothing where the first's are empty slices. -/
def Owd : List Cell → List Cell → Prop
  | [], [] => True
  | x :: l, y :: m => (y = x ∨ (x = .sc (.slice none 0 0) ∧ ∃ e, y = .own e 0 [])) ∧ Owd l m
  | _, _ => False
theorem Owd.length : ∀ {l m : List Cell}, Owd l m → m.length = l.length
  | [], [], _ => rfl
  | _ :: _, _ :: _, h => by simp [Owd.length h.2]
  | [], _ :: _, h => h.elim
  | _ :: _, [], h => h.elim
theorem Owd.get : ∀ {l m : List Cell}, Owd l m → ∀ {i : Nat} {y : Cell}, m[i]? = some y → l[i]? = some y ∨ (l[i]? = some (.sc (.slice none 0 0)) ∧ ∃ e, y = .own e 0 [])
  | x :: l, z :: m, h, 0, y, hy => by
    simp at hy
    subst hy
    rcases h.1 with h1 | ⟨h1, h2⟩
    · subst h1; exact .inl rfl
    · subst h1; exact .inr ⟨rfl, h2⟩
  | x :: l, z :: m, h, i + 1, y, hy => by simpa using Owd.get h.2 (i := i) (y := y) (by simpa using hy)
  | [], [], _, i, y, hy => by simp at hy
  | [], _ :: _, h, _, _, _ => h.elim
  | _ :: _, [], h, _, _, _ => h.elim
theorem Owd.refl : ∀ (l : List Cell), Owd l l
  | [] => trivial
  | x :: l => ⟨.inl rfl, Owd.refl l⟩
theorem Owd.append : ∀ {l m l' m' : List Cell}, Owd l m → Owd l' m' → Owd (l ++ l') (m ++ m')
  | [], [], _, _, _, h' => h'
  | _ :: _, _ :: _, _, _, h, h' => ⟨h.1, Owd.append h.2 h'⟩
  | [], _ :: _, _, _, h, _ => h.elim
  | _ :: _, [], _, _, h, _ => h.elim

section
variable {X : EM} {s : Sto} {w : World} {K : Key} {R : Root} {cs' : List Cell}
open Classical in
/-- Where the new places lie. -/
noncomputable def EM.own (X : EM) (K : Key) (cs : List Cell) : EM := fun k q => if k = K ∧ ∃ i, q = [i] ∧ cs[i]? = some (.sc (.slice none 0 0)) then ⟨0, 0, 0⟩ else X k q

theorem own_blkS (hg : s.get K = some R) (ho : Owd R.cs cs') (k : Key) (q : List Nat) {e : Nat} {cs : List Cell} (h : (s.set K ⟨R.kd, R.e, cs'⟩).blkS k q = some (e, cs)) :
    (k = K ∧ q = [] ∧ e = R.e ∧ cs = cs'.map sh ∧ s.blkS k q = some (R.e, R.cs.map sh)) ∨ (∃ i, k = K ∧ q = [i] ∧ R.cs[i]? = some (.sc (.slice none 0 0)) ∧ cs = [] ∧ cs'[i]? = some (.own e 0 [])) ∨
      (s.blkS k q = some (e, cs) ∧ ¬ (k = K ∧ q = []) ∧ ¬ (k = K ∧ ∃ i, q = [i] ∧ R.cs[i]? = some (.sc (.slice none 0 0)))) := by
  rw [blkS_new] at h
  by_cases hk : K = k
  · subst hk
    rw [if_pos rfl] at h
    have hold : ∀ q, s.blkS K q = walkS (R.e, R.cs) q := fun q => by simp only [Sto.blkS, Sto.blk, hg, Option.bind_some, Root.blk]; rfl
    cases q with
    | nil =>
      simp [walkS, shB] at h
      exact .inl ⟨rfl, rfl, h.1.symm, h.2.symm, by rw [hold]; rfl⟩
    | cons i r =>
      simp only [walkS, walk] at h
      cases hy : cs'[i]? with
      | none => rw [hy] at h; simp at h
      | some y =>
        rw [hy] at h
        rcases ho.get hy with h1 | ⟨h1, e', rfl⟩
        · refine .inr (.inr ⟨?_, ?_, ?_⟩)
          · rw [hold]; simp only [walkS, walk, h1]; exact h
          · rintro ⟨_, hh⟩; cases hh
          · rintro ⟨_, j, hj, hn⟩; cases hj; rw [h1] at hn; cases hn; simp at h
        · cases r with
          | nil => simp [shB] at h; exact .inr (.inl ⟨i, rfl, rfl, h1, h.2, by rw [hy, h.1]⟩)
          | cons j r => simp at h
  · rw [if_neg hk] at h
    exact .inr (.inr ⟨h, fun hh => hk hh.1.symm, fun hh => hk hh.1.symm⟩)
theorem own_tr (hg : s.get K = some R) (ho : Owd R.cs cs') (k : Key) (q : List Nat) : Tr X s k q (X.own K R.cs) (s.set K ⟨R.kd, R.e, cs'⟩) k q := fun e cs hb => by
  rw [blkS_new]
  by_cases hk : K = k
  · subst hk
    rw [if_pos rfl]
    have hold : s.blkS K q = walkS (R.e, R.cs) q := by simp only [Sto.blkS, Sto.blk, hg, Option.bind_some, Root.blk]; rfl
    rw [hold] at hb
    cases q with
    | nil =>
      simp [walkS, shB] at hb
      obtain ⟨rfl, rfl⟩ := hb
      exact ⟨cs'.map sh, rfl, by simp [ho.length], by unfold EM.own; rw [if_neg]; rintro ⟨_, i, h, _⟩; cases h⟩
    | cons i r =>
      have hi : R.cs[i]? ≠ some (.sc (.slice none 0 0)) := fun hh => by simp only [walkS, walk, hh] at hb; simp at hb
      have e1 : walkS (R.e, cs') (i :: r) = walkS (R.e, R.cs) (i :: r) := by
        simp only [walkS, walk]
        cases hy : cs'[i]? with
        | none =>
          have : R.cs[i]? = none := by
            rw [List.getElem?_eq_none_iff] at hy ⊢
            rw [ho.length] at hy; exact hy
          rw [this]
        | some y =>
          rcases ho.get hy with h1 | ⟨h1, _⟩
          · rw [h1]
          · exact absurd h1 hi
      refine ⟨cs, by rw [e1]; exact hb, rfl, ?_⟩
      unfold EM.own
      rw [if_neg]
      rintro ⟨_, j, h, h2⟩
      cases h
      exact hi h2
  · rw [if_neg hk]
    exact ⟨cs, hb, rfl, by unfold EM.own; rw [if_neg]; rintro ⟨h, _⟩; exact hk h.symm⟩

theorem HRel.own (H : HRel X s w) (hg : s.get K = some R) (ho : Owd R.cs cs') : HRel (X.own K R.cs) (s.set K ⟨R.kd, R.e, cs'⟩) w := by
  have hl := ho.length
  have ownd : ∀ k, (s.set K ⟨R.kd, R.e, cs'⟩).owned k ↔ s.owned k := fun k => by
    simp only [Sto.owned, Sto.get_set]
    by_cases hk : K = k
    · subst hk; rw [if_pos rfl, hg]; simp
    · rw [if_neg hk]
  have Xold : ∀ k q, ¬ (k = K ∧ ∃ i, q = [i] ∧ R.cs[i]? = some (.sc (.slice none 0 0))) → X.own K R.cs k q = X k q := fun k q h => by unfold EM.own; rw [if_neg h]
  have Xnew : ∀ i, R.cs[i]? = some (.sc (.slice none 0 0)) → X.own K R.cs K [i] = ⟨0, 0, 0⟩ := fun i h => by unfold EM.own; rw [if_pos ⟨rfl, i, rfl, h⟩]
  have XK : X.own K R.cs K [] = X K [] := Xold K [] (by rintro ⟨_, i, h, _⟩; cases h)
  have tr := own_tr (X := X) hg ho
  refine ⟨fun k q e cs h i x hx => ?_, fun k q e cs h => ?_, fun k p k' p' h h' hw hne j j' hj hj' => ?_, fun k r hr hk x hx => ?_, fun k p i e cs h x hx => ?_⟩
  · rcases own_blkS hg ho k q h with ⟨rfl, rfl, rfl, rfl, hb⟩ | ⟨i', rfl, rfl, h1, rfl, hy⟩ | ⟨hb, h1, h2⟩
    · rw [XK]
      rw [List.getElem?_map] at hx
      obtain ⟨y, hy, rfl⟩ := Option.map_eq_some_iff.1 hx
      rcases ho.get hy with h1 | ⟨h1, e', rfl⟩
      · obtain ⟨v, hv1, hv2⟩ := H.cell k [] _ _ hb i (sh y) (by rw [List.getElem?_map, h1]; rfl)
        exact ⟨v, hv1, HC_tr hv2 (fun _ => tr _ _) (VC_tr fun k q _ => tr k q)⟩
      · obtain ⟨v, hv1, hv2⟩ := H.cell k [] _ _ hb i (sh (.sc (.slice none 0 0))) (by rw [List.getElem?_map, h1]; rfl)
        have hv3 : v = .slice none 0 0 := hv2.1
        subst hv3
        have hnew : (s.set k ⟨R.kd, R.e, cs'⟩).blkS k ([] ++ [i]) = some (e', []) := by
          rw [blkS_new, if_pos rfl]
          simp [walkS, hy, shB]
        refine ⟨_, hv1, ⟨e', [], 0, none, hnew, by simp, Nat.le_refl _, rfl, .inl rfl⟩, [], hnew, by simp⟩
    · simp at hx
    · rw [Xold k q h2]
      obtain ⟨v, hv1, hv2⟩ := H.cell k q e cs hb i x hx
      exact ⟨v, hv1, HC_tr hv2 (fun _ => tr _ _) (VC_tr fun k q _ => tr k q)⟩
  · rcases own_blkS hg ho k q h with ⟨rfl, rfl, rfl, rfl, hb⟩ | ⟨i', rfl, rfl, h1, rfl, hy⟩ | ⟨hb, h1, h2⟩
    · rw [XK]
      obtain ⟨h3, h4⟩ := H.room k [] _ _ hb
      exact ⟨by simpa [hl] using h3, fun j hj => ⟨(h4 j hj).1, fun ho => (h4 j hj).2 ((ownd k).1 ho)⟩⟩
    · rw [Xnew i' h1]; exact ⟨Nat.le_refl _, fun j hj => by simp at hj⟩
    · rw [Xold k q h2]
      obtain ⟨h3, h4⟩ := H.room k q _ _ hb
      exact ⟨h3, fun j hj => ⟨(h4 j hj).1, fun ho => (h4 j hj).2 ((ownd k).1 ho)⟩⟩
  · obtain ⟨⟨e1, c1⟩, h⟩ := Option.isSome_iff_exists.1 h
    obtain ⟨⟨e2, c2⟩, h'⟩ := Option.isSome_iff_exists.1 h'
    have cap : ∀ {k q e cs j}, (s.set K ⟨R.kd, R.e, cs'⟩).blkS k q = some (e, cs) → j < (X.own K R.cs k q).cap → (s.blkS k q).isSome ∧ X.own K R.cs k q = X k q := fun {k q e cs j} h hj => by
      rcases own_blkS hg ho k q h with ⟨rfl, rfl, rfl, rfl, hb⟩ | ⟨i', rfl, rfl, h1, rfl, hy⟩ | ⟨hb, h1, h2⟩
      · exact ⟨by rw [hb]; rfl, XK⟩
      · rw [Xnew i' h1] at hj; simp at hj
      · exact ⟨by rw [hb]; rfl, Xold k q h2⟩
    obtain ⟨a1, a2⟩ := cap h hj
    obtain ⟨b1, b2⟩ := cap h' hj'
    rw [a2] at hj ⊢
    rw [b2] at hj' ⊢
    exact H.apart k p k' p' a1 b1 ((ownd k).1 hw) hne j j' hj hj'
  · rw [Sto.get_set] at hr
    split at hr
    · rename_i hkk
      cases hr
      obtain ⟨i, hi⟩ := List.mem_iff_getElem?.1 hx
      rcases ho.get hi with h1 | ⟨_, e', rfl⟩
      · exact H.clean K R hg hk x (List.mem_iff_getElem?.2 ⟨i, h1⟩)
      · rfl
    · exact H.clean k r hr hk x hx
  · rcases own_blkS hg ho k (i :: p) h with ⟨_, hh, _⟩ | ⟨i', rfl, hq, h1, rfl, hy⟩ | ⟨hb, h1, h2⟩
    · cases hh
    · cases hx
    · exact H.cleanD k p i e cs hb x hx
end
/-- Empty slices in a root's cells, as owned. -/
theorem Weak.own {N : Nat} {st : St} (K : Key) {R : Root} {cs' : List Cell} (hg : st.s.get K = some R) (ho : Owd R.cs cs') : Weak N st ⟨st.t, st.s.set K ⟨R.kd, R.e, cs'⟩, st.ma, st.mb⟩ := fun B a w ⟨X, I⟩ => by
  have tr := own_tr (X := X) hg ho
  refine ⟨X.own K R.cs, ⟨I.rel.own hg ho, fun i => VA_tr tr (I.tmps i), I.size, I.defers, I.fr, fun a ha => I.foot a ?_, I.keep.step (fun j h => h) (fun j h => h) (fun j _ _ q => tr _ q) (fun j _ => tr _ []), I.gb⟩⟩
  obtain ⟨k, q, j, h1, h2, h3, h4⟩ := ha
  obtain ⟨⟨e, cs⟩, h2⟩ := Option.isSome_iff_exists.1 h2
  have h1' : st.s.owned k := by
    obtain ⟨r, hr, hk⟩ := h1
    rw [Sto.get_set] at hr
    split at hr
    · rename_i hkk; cases hr; subst hkk; exact ⟨R, hg, hk⟩
    · exact ⟨r, hr, hk⟩
  rcases own_blkS hg ho k q h2 with ⟨rfl, rfl, rfl, rfl, hb⟩ | ⟨i', rfl, rfl, h5, rfl, hy⟩ | ⟨hb, h5, h6⟩
  · have : X.own k R.cs k [] = X k [] := by unfold EM.own; rw [if_neg]; rintro ⟨_, i, h, _⟩; cases h
    rw [this] at h3 h4
    exact ⟨k, [], j, h1', by rw [hb]; rfl, h3, h4⟩
  · have : X.own k R.cs k [i'] = ⟨0, 0, 0⟩ := by unfold EM.own; rw [if_pos ⟨rfl, i', rfl, h5⟩]
    rw [this] at h3; simp at h3
  · have : X.own K R.cs k q = X k q := by unfold EM.own; rw [if_neg h6]
    rw [this] at h3 h4
    exact ⟨k, q, j, h1', by rw [hb]; rfl, h3, h4⟩
end Go.AK


/- The walk's rules, one by one; lists of typed values as cells. Conditions: none. -/
set_option linter.unusedSimpArgs false
set_option linter.unusedVariables false
namespace Go.AK
open Go

section
variable {P : Program} {N : Nat} {K : AE → St → Prop} {st : St}
theorem seq_k {a b : AC} (h : ∀ J : St → Prop, (∀ st, awc P N b K st → J st) → awc P N a (thenK J K) st) : awc P N (.seq a b) K st := h _ fun _ h => h
/-- The first part hands on just such states. -/
theorem seq_j {a b : AC} (I : St → Prop) (h : ∀ J : St → Prop, (∀ st, I st → J st) → awc P N a (thenK J K) st) (h2 : ∀ st, I st → awc P N b K st) : awc P N (.seq a b) K st := h _ h2
theorem cond_k {c : Operand} {x y : AC} {b : Bool} (hb : evo st.t c = .c (.sc (.bool b))) (h1 : b = true → awc P N x K st) (h2 : b = false → awc P N y K st) : awc P N (.cond c x y) K st := ⟨b, hb, h1, h2⟩
theorem block_k {i : Nat} {b : AC} (h : ∀ K' : AE → St → Prop, (∀ st, K .nrm st → K' .nrm st) → (∀ st, K .nrm st → K' (.exit i) st) → (∀ st, K .ret st → K' .ret st) → (∀ j st, j ≠ i → K (.exit j) st → K' (.exit j) st) → awc P N b K' st) :
    awc P N (.block i b) K st := h (blockK i K) (fun _ h => h) (fun st h => by show (if i = i then _ else _); rw [if_pos rfl]; exact h) (fun _ h => h) (fun j st hj h => by show (if j = i then _ else _); rw [if_neg hj]; exact h)
theorem reg_k {l : List RI} (h : awOps P N l (K .nrm) st) : awc P N (.reg l) K st := h
theorem regD_k {p : PL} {ts : List Tmp} (h : awP P N [] p (fun st => K .nrm (st.keep ts)) st) : awc P N (.regD p ts) K st := h
theorem gh_k {b : AC} {st' : St} (hw : Weak N st st') (h : awc P N b K st') : awc P N (.gh b) K st := ⟨st', hw, h⟩
theorem ga_k {b : AC} (h : ∀ K' : AE → St → Prop, (∀ st st', Weak N st st' → K .nrm st' → K' .nrm st) → (∀ st, K .ret st → K' .ret st) → (∀ j st, K (.exit j) st → K' (.exit j) st) → awc P N b K' st) : awc P N (.ga b) K st :=
  h (gaK N K) (fun st st' hw h => ⟨st', hw, h⟩) (fun _ h => h) (fun _ _ h => h)
theorem gho_k {r : List RI} {Kp : St → Prop} {st' : St} (hw : Weak N st st') (h : awOps P N r Kp st') : awOps P N (.gh :: r) Kp st := ⟨st', hw, h⟩
theorem ghp_k {p : PL} {ps : Pins} {Kp : St → Prop} {st' : St} (hw : Weak N st st') (h : pinK ps (awP P N ps p Kp) st') : awP P N ps (.gh p) Kp st := ⟨st', hw, h⟩
end

/-! ### typed lists -/
def encL {α : Type} (c : α → List Cell) (l : List α) : List Cell := l.flatMap c
section
variable {α : Type} {c : α → List Cell} {w : Nat}
theorem encL_length (hw : ∀ x, (c x).length = w) (l : List α) : (encL c l).length = l.length * w := by
  induction l with
  | nil => simp [encL]
  | cons a l ih => simp only [encL, List.flatMap_cons, List.length_append, hw, List.length_cons] at ih ⊢; rw [ih, Nat.succ_mul, Nat.add_comm]
@[simp] theorem encL_nil : encL c ([] : List α) = [] := rfl
theorem encL_cons (a : α) (l : List α) : encL c (a :: l) = c a ++ encL c l := rfl
theorem encL_append (l m : List α) : encL c (l ++ m) = encL c l ++ encL c m := by simp [encL]
theorem encL_get (hw : ∀ x, (c x).length = w) : ∀ (l : List α) (i j : Nat) (h : i < l.length), j < w → (encL c l)[i * w + j]? = (c l[i])[j]?
  | a :: l, 0, j, h, hj => by rw [encL_cons, Nat.zero_mul, Nat.zero_add, List.getElem?_append_left (by rw [hw]; exact hj)]; rfl
  | a :: l, i + 1, j, h, hj => by
    rw [encL_cons, List.getElem?_append_right (by rw [hw, Nat.succ_mul]; omega), hw]
    have : (i + 1) * w + j - w = i * w + j := by rw [Nat.succ_mul]; omega
    rw [this]
    simpa using encL_get hw l i j (by simpa using h) hj
theorem encL_stretch (hw : ∀ x, (c x).length = w) : ∀ (l : List α) (i : Nat) (h : i < l.length), ((encL c l).drop (i * w)).take w = c l[i]
  | a :: l, 0, h => by rw [encL_cons, Nat.zero_mul, List.drop_zero, List.take_append_of_le_length (by rw [hw]; exact Nat.le_refl _), List.take_of_length_le (by rw [hw]; exact Nat.le_refl _)]; rfl
  | a :: l, i + 1, h => by
    rw [encL_cons, List.drop_append, List.drop_of_length_le (by rw [hw, Nat.succ_mul]; omega), hw, List.nil_append]
    have : (i + 1) * w - w = i * w := by rw [Nat.succ_mul]; omega
    rw [this]
    simpa using encL_stretch hw l i (by simpa using h)
end
def rd {α : Type} (z : α) (l : List α) (i : Int) : α := l.getD i.toNat z
theorem rd_get {α : Type} (z : α) (l : List α) (i : Int) (h : i.toNat < l.length) : l[i.toNat] = rd z l i := by simp [rd, h]
/-- From cell o on the cells are those of the list. -/
structure Vw {α : Type} (c : α → List Cell) (w : Nat) (cs : List Cell) (o : Nat) (l : List α) : Prop where
  w : ∀ x, (c x).length = w
  cells : ∃ a b, cs = a ++ encL c l ++ b ∧ a.length = o
section
variable {α : Type} {c : α → List Cell} {w : Nat} {cs : List Cell} {o : Nat} {l : List α}
theorem Vw.whole (hw : ∀ x, (c x).length = w) (l : List α) : Vw c w (encL c l) 0 l := ⟨hw, [], [], by simp, rfl⟩
theorem Vw.len (h : Vw c w cs o l) : o + l.length * w ≤ cs.length := by
  obtain ⟨a, b, rfl, rfl⟩ := h.cells
  simp only [List.length_append, encL_length h.w]; omega
theorem Vw.get (h : Vw c w cs o l) {i : Int} (z : α) (j : Nat) (h0 : 0 ≤ i) (h1 : i < l.length) (hj : j < w) : cs[o + i.toNat * w + j]? = (c (rd z l i))[j]? := by
  obtain ⟨a, b, rfl, rfl⟩ := h.cells
  have hi : i.toNat < l.length := by omega
  have hlt : i.toNat * w + j < l.length * w := by
    have : (i.toNat + 1) * w ≤ l.length * w := Nat.mul_le_mul_right _ hi
    rw [Nat.succ_mul] at this; omega
  rw [List.append_assoc, Nat.add_assoc, List.getElem?_append_right (by omega), Nat.add_sub_cancel_left, List.getElem?_append_left (by rw [encL_length h.w]; exact hlt), encL_get h.w l _ j hi hj, rd_get z l i hi]
theorem Vw.stretch (h : Vw c w cs o l) {i : Int} (z : α) (h0 : 0 ≤ i) (h1 : i < l.length) : (cs.drop (o + i.toNat * w)).take w = c (rd z l i) := by
  obtain ⟨a, b, rfl, rfl⟩ := h.cells
  have hi : i.toNat < l.length := by omega
  have hlt : i.toNat * w + w ≤ (encL c l).length := by
    have : (i.toNat + 1) * w ≤ l.length * w := Nat.mul_le_mul_right _ hi
    rw [encL_length h.w]; rw [Nat.succ_mul] at this; omega
  rw [List.append_assoc, ← List.drop_drop, List.drop_append, List.drop_of_length_le (Nat.le_refl _), Nat.sub_self, List.nil_append, List.drop_zero, List.drop_append_of_le_length (by omega), List.take_append_of_le_length (by rw [List.length_drop]; omega), encL_stretch h.w l _ hi, rd_get z l i hi]
end
/-- A part of what lies there. -/
theorem Vw.slice {α : Type} {c : α → List Cell} {w : Nat} {cs : List Cell} {o : Nat} {l : List α} (h : Vw c w cs o l) {a b : Nat} (hab : a ≤ b) (hb : b ≤ l.length) : Vw c w cs (o + a * w) ((l.take b).drop a) := by
  obtain ⟨p, q, rfl, rfl⟩ := h.cells
  have hl : l = l.take a ++ ((l.take b).drop a ++ l.drop b) := by
    have h1 : l.take a = (l.take b).take a := by rw [List.take_take, Nat.min_eq_left hab]
    rw [← List.append_assoc, h1, List.take_append_drop, List.take_append_drop]
  refine ⟨h.w, p ++ encL c (l.take a), encL c (l.drop b) ++ q, ?_, ?_⟩
  · conv => lhs; rw [hl]
    simp only [encL_append, List.append_assoc]
  · simp only [List.length_append, encL_length h.w, List.length_take]
    rw [Nat.min_eq_left (Nat.le_trans hab hb)]
theorem Vw.upto {α : Type} {c : α → List Cell} {w : Nat} {cs : List Cell} {o : Nat} {l : List α} (h : Vw c w cs o l) {b : Nat} (hb : b ≤ l.length) : Vw c w cs o (l.take b) := by
  have := h.slice (Nat.zero_le b) hb
  simpa using this
theorem Vw.from {α : Type} {c : α → List Cell} {w : Nat} {cs : List Cell} {o : Nat} {l : List α} (h : Vw c w cs o l) {a : Nat} (ha : a ≤ l.length) : Vw c w cs (o + a * w) (l.drop a) := by
  have := h.slice ha (Nat.le_refl _)
  rwa [List.take_length] at this
end Go.AK


/- The walk's rules as equations. Conditions: none. -/
set_option linter.unusedSimpArgs false
set_option linter.unusedVariables false
namespace Go.AK
open Go

section
variable (P : Program) (N : Nat) (K : AE → St → Prop) (Kp p q : St → Prop) (st : St)
theorem e_loop (b : AC) : awc P N (.loop b) K st = loopS P N b K st := rfl
theorem s_some (x : St) : onSome (some x) p = p x := by simp [onSome]
theorem s_map {α : Type} (o : Option α) (f : α → St) : onSome (o.map f) p = ∃ x, o = some x ∧ p (f x) := by
  cases o <;> simp [onSome]
theorem s_if (c : Prop) [Decidable c] (x : Option St) : onSome (if c then x else none) p = (c ∧ onSome x p) := by
  by_cases h : c <;> simp [h, onSome]
end
/-- What one value is. -/
def vOp (st : St) (ao : AO) : Option St := (aval st ao).map fun av => ⟨st.t.set ao.dst av, st.s, st.ma, st.mb⟩
section
variable (t : Tm) (s : Sto) (ma mb : List Nat) (st : St)
theorem v_map (ao : AO) (p : St → Prop) : onSome (vOp st ao) p = ∃ av, aval st ao = some av ∧ p ⟨st.t.set ao.dst av, st.s, st.ma, st.mb⟩ := s_map _ _ _
theorem x_eq {α : Type} (a : α) (p : α → Prop) : (∃ x, some a = some x ∧ p x) = p a := by simp
theorem x_if {α : Type} (c : Prop) [Decidable c] (a : Option α) (p : α → Prop) : (∃ x, (if c then a else none) = some x ∧ p x) = (c ∧ ∃ x, a = some x ∧ p x) := by
  by_cases h : c <;> simp [h]
end
/-- A body, what its end must give behind a variable. -/
theorem body_of {P : Program} {N : Nat} {c : AC} {s0 : Sto} {xs : List RV} {Φ : Out → Prop} {st : St} (h : ∀ K : AE → St → Prop, (∀ st, endK s0 xs Φ st → K .nrm st) → (∀ st, endK s0 xs Φ st → K .ret st) → awc P N c K st) : awc P N c (bodyK s0 xs Φ) st :=
  h _ (fun _ h => h) fun _ h => h
end Go.AK



/- Calls, as the printed walks make them. Conditions: none. -/
set_option linter.unusedSimpArgs false
set_option linter.unusedVariables false
namespace Go.AK
open Go

theorem memK_nil (k : Key) : memK [] k = false := by cases k <;> rfl
theorem badN_nil (pl : Pls) (k : Key) (p : List Nat) : badN [] [] pl k p = false := by
  induction pl with
  | nil => rfl
  | cons x r ih => obtain ⟨K, P⟩ := x; simp [badN, memK_nil, ih]
theorem killNm_nil (pl : Pls) : killNm pl [] [] = ⟨fun k p o => some (k, p, o), fun k p o => some (k, p, o)⟩ := by
  simp [killNm, badN_nil]
theorem mapN1_id (x : Cell) : mapN1 ⟨fun k p o => some (k, p, o), fun k p o => some (k, p, o)⟩ x = x := by cases x <;> rfl
theorem mapN_id (x : Cell) : mapN ⟨fun k p o => some (k, p, o), fun k p o => some (k, p, o)⟩ x = x := by
  cases x with
  | fn g caps =>
    simp only [mapN]
    congr 1
    have : (mapN1 ⟨fun k p o => some (k, p, o), fun k p o => some (k, p, o)⟩) = id := funext mapN1_id
    rw [this]; simp
  | ifc t c => simp only [mapN, mapN1_id]
  | sc _ => rfl
  | ref _ _ _ _ => rfl
  | ptr _ _ _ => rfl
  | own _ _ _ => rfl
  | obx _ => rfl
  | dead => rfl
theorem mapN_killNil (pl : Pls) : mapN (killNm pl [] []) = id := by rw [killNm_nil]; exact funext mapN_id
theorem Sto.mapN_killNil (pl : Pls) (s : Sto) : s.mapN (killNm pl [] []) = s := by
  have h : mapR (killNm pl [] []) = id := by
    funext R
    unfold mapR
    split
    · rw [Go.AK.mapN_killNil, List.map_id]; rfl
    · rfl
  unfold Sto.mapN
  rw [h]
  simp
theorem mapT_killNil (pl : Pls) (t : Tm) : t.mapT (mapN (killNm pl [] [])) = t := by rw [mapN_killNil]; exact mapT_id t
theorem upM_nil (pl : Pls) (acc : List Nat) : upM [] pl acc = acc := by
  induction pl generalizing acc with
  | nil => rfl
  | cons x r ih => obtain ⟨K, P⟩ := x; simp only [upM, memK_nil]; exact ih acc

theorem setw_self {cs c0 : List Cell} {p : List Nat} {e e0 : Nat} (h : walk (e, cs) p = some (e0, c0)) : setw cs c0 p = cs := by
  induction p generalizing cs e with
  | nil => simp at h; simp [h.2]
  | cons i p ih =>
    simp only [walk] at h
    cases hs : sub cs[i]? with
    | none => rw [hs] at h; cases h
    | some b =>
      rw [hs, Option.bind_some] at h
      simp only [setw, hs]
      have h1 := ih (cs := b.2) (e := b.1) h
      rw [h1]
      apply List.ext_getElem?
      intro j
      rw [List.getElem?_modify]
      by_cases hj : i = j
      · subst hj
        cases hx : cs[i]? with
        | none => rfl
        | some x =>
          rw [hx] at hs
          simp only [if_true, Option.map_eq_map, Option.map_some]
          cases x <;> simp at hs <;> (subst hs; rfl)
      · simp [hj]
theorem Sto.set_self {s : Sto} {k : Key} {r : Root} (h : s.get k = some r) : s.set k r = s := by
  induction s with
  | nil => cases h
  | cons x s ih =>
    obtain ⟨q, r'⟩ := x
    simp only [Sto.get] at h
    simp only [Sto.set]
    split
    · rename_i hq; rw [if_pos hq] at h; cases h; rw [hq]
    · rename_i hq; rw [if_neg hq] at h; rw [ih h]
/-- What was only read lies as it lay. -/
theorem mrgL_fz {s1 s s' : Sto} {bw : Nm} {K : Key} {P : Plc} {r : Pls} {e : Nat} {cs : List Cell} (h : mrgL s1 bw s r = some s') (h1 : s1.get K = some ⟨.fz, e, cs⟩) (h2 : s'.blk P.k P.p = some (e, cs)) (hr : P.rng = none)
    (hb : ∀ R, s'.get P.k = some R → ¬ (P.p = [] ∧ R.kd = .box)) : mrgL s1 bw s ((K, P) :: r) = some s' := by
  simp only [mrgL, h]
  unfold mrg1
  rw [h1]
  cases hg : s'.get P.k with
  | none => simp [Sto.blk, hg] at h2
  | some R =>
    simp only [Sto.blk, hg, Option.bind_some, Root.blk] at h2
    simp only [h2]
    rw [if_pos ⟨trivial, by rw [hr]; rfl⟩, if_neg (hb R hg), if_pos (by simp)]
    congr 1
    simp only [Sto.setBlk, hg]
    rw [hr]
    show s'.set P.k ⟨R.kd, R.e, setw R.cs cs P.p⟩ = s'
    rw [setw_self h2]
    exact Sto.set_self hg
/-- A root that was lent whole. -/
theorem mrgL_whole {s1 s s' : Sto} {bw : Nm} {K k : Key} {kd kd1 : Kind} {r : Pls} {e : Nat} {cs new new' : List Cell} (h : mrgL s1 bw s r = some s') (h1 : s1.get K = some ⟨kd1, e, new⟩) (h2 : s'.get k = some ⟨kd, e, cs⟩)
    (hk : (kd = .box ∧ new' = new.map (mapN bw)) ∨ (kd ≠ .box ∧ kd1 ≠ .box ∧ new' = new)) : mrgL s1 bw s ((K, ⟨k, [], none, kd1⟩) :: r) = some (s'.set k ⟨kd, e, new'⟩) := by
  simp only [mrgL, h]
  unfold mrg1
  rw [h1]
  simp only [h2, walk]
  rw [if_pos ⟨trivial, rfl⟩]
  rcases hk with ⟨hk, rfl⟩ | ⟨hk, hk1, rfl⟩
  · rw [if_pos ⟨trivial, hk⟩]; simp [Sto.setBlk, h2, splice]
  · rw [if_neg (fun hh => hk hh.2), if_pos hk1]; simp [Sto.setBlk, h2, splice]
theorem mrgL_nil' (s1 s : Sto) (bw : Nm) : mrgL s1 bw s [] = some s := rfl

def bkOk (s0 s1 : Sto) : Pls → Prop
  | [] => True
  | (K, _) :: r => (∀ R1, s1.get K = some R1 → R1.kd = .fz → s0.get K = some R1) ∧ bkOk s0 s1 r
/-- What is behind an argument that was not turned as a whole is as long as it was. -/
def LenOk (s0 s1 : Sto) (mb : List Nat) : Prop := ∀ j, j ∉ mb → ∀ R0 R1, s0.get (.arg j) = some R0 → s1.get (.arg j) = some R1 → R1.cs.length = R0.cs.length
def bkOk2 (s0 s1 : Sto) (ma mb : List Nat) : Pls → Prop
  | [] => True
  | (K, P) :: r => ((memK mb K = true → P.rng = none ∧ P.p = []) ∧ ∀ R1, s1.get K = some R1 → R1.kd = .fz → s0.get K = some R1 ∧ memK ma K = false ∧ memK mb K = false) ∧ bkOk2 s0 s1 ma mb r
theorem bkOk2_mem {s0 s1 : Sto} {ma mb : List Nat} : ∀ {pl : Pls}, bkOk2 s0 s1 ma mb pl → ∀ {K P}, (K, P) ∈ pl → (memK mb K = true → P.rng = none ∧ P.p = []) ∧ ∀ R1, s1.get K = some R1 → R1.kd = .fz → s0.get K = some R1 ∧ memK ma K = false ∧ memK mb K = false
  | (K1, P1) :: r, h, K, P, hm => by
    rcases List.mem_cons.1 hm with hh | hh
    · cases hh; exact h.1
    · exact bkOk2_mem h.2 hh
  | [], _, _, _, hm => by cases hm
theorem blkS_len {s : Sto} {k : Key} {R : Root} (h : s.get k = some R) : s.blkS k [] = some (R.e, R.cs.map sh) := by simp [Sto.blkS, Sto.blk, h, shB]
theorem Tri.len {P : Program} {f : FuncId} {avs : List AV} {s0 : Sto} {o1 : Out} (T : Tri P f avs s0 (fun o => o = o1)) : Tri P f avs s0 (fun o => o = o1 ∧ LenOk s0 o1.s o1.mb) := fun X w vs H hv hg =>
  (T X w vs H hv hg).mono fun e w' ⟨o, X', v, ho, h1, h2, h3, h4, h5, h6⟩ => ⟨o, X', v, ⟨ho, by
    subst ho
    intro j hj R0 R1 hR0 hR1
    obtain ⟨cs', h7, h8, _⟩ := (h6 j).2 hj _ _ (blkS_len hR0)
    rw [blkS_len hR1] at h7
    simp only [Option.some.injEq, Prod.mk.injEq] at h7
    rw [← h7.2] at h8
    simpa using h8⟩, h1, h2, h3, h4, h5, h6⟩
theorem call_m {P : Program} {N : Nat} {d : Option Tmp} {f : FuncId} {args : List Operand} {K : St → Prop} {st : St} (pl : Pls) {avs : List AV} {s0 s1 : Sto} {v : AV} {ma mb : List Nat} (hd : ∀ t, d = some t → t < N)
    (hi : indep pl = true) (ha : argsOnly pl = true) (h0 : foc st.s pl = some s0) (T : Tri P f avs s0 (fun o => o = ⟨v, s1, ma, mb⟩)) (hav : (args.map fun o => mapA (mapN (fwd pl)) (evo st.t o)) = avs)
    (hb : bkOk2 s0 s1 ma mb pl) (h : LenOk s0 s1 mb → ∃ s3 s4, mrgL s1 (bwd pl d) (st.s.mapN (killNm pl ma mb)) pl = some s3 ∧ resL d (bwd pl d) s1 s3 = some s4 ∧
      K (putD ⟨st.t.mapT (mapN (killNm pl ma mb)), s4, upM ma pl st.ma, upM mb pl st.mb⟩ d (mapA (mapN (bwd pl d)) v))) : callK P N d f args K st := by
  subst hav
  refine callK_of pl hd hi ha h0 T.len ?_
  rintro o ⟨rfl, hl⟩
  obtain ⟨s3, s4, h3, h4, hK⟩ := h hl
  refine ⟨fun K P hm => bkOk2_mem hb hm, s4, ?_, hK⟩
  unfold mrg
  rw [h3]
  exact h4
/-- The state behind a call, told. -/
theorem call_st {K : St → Prop} {s1 s4 : Sto} {bw : Nm} {d : Option Tmp} {pl : Pls} {t t' : Tm} {s s2 : Sto} {ma mb m1 m2 m1' m2' : List Nat} {v v' : AV} {s3 : Sto} (hs : s.mapN (killNm pl ma mb) = s2) (h3 : mrgL s1 bw s2 pl = some s3) (h4 : resL d bw s1 s3 = some s4)
    (ht : t.mapT (mapN (killNm pl ma mb)) = t') (hm1 : upM ma pl m1 = m1') (hm2 : upM mb pl m2 = m2') (hv : mapA (mapN bw) v = v') (h : K (putD ⟨t', s4, m1', m2'⟩ d v')) :
    ∃ s3 s4, mrgL s1 bw (s.mapN (killNm pl ma mb)) pl = some s3 ∧ resL d bw s1 s3 = some s4 ∧ K (putD ⟨t.mapT (mapN (killNm pl ma mb)), s4, upM ma pl m1, upM mb pl m2⟩ d (mapA (mapN bw) v)) := by
  subst hs ht hm1 hm2 hv
  exact ⟨s3, s4, h3, h4, h⟩
/-! ### calls of values -/
section
variable {P : Program} {N : Nat} {d : Option Tmp} {args : List Operand} {K : St → Prop} {st : St} {x : Operand} {f : FuncId} {fn : Func}
theorem callv_iface {t : TypeId} {v recv : Value} {name : String} (hx : evo st.t x = .c (.sc (.iface t v))) (hm : ∀ w, (method (P.types.size + Made.depth) t v name).run P w = .ok (f, recv) w) (hf : P.funcs[f]? = some fn) (hb : fn.body.isNone = false) (hn : fn.name ≠ "runtime.NumGoroutine")
    (h : callK P N d f (.const recv :: args) K st) : callvK P N d (.invoke x name) args K st := by
  refine ⟨f, .const recv :: args, fun B a w I o cl hop hc ha => ?_, h⟩
  obtain ⟨X, IX⟩ := I
  have hv := IX.sc hx
  have hbn : ¬ (fn.body = none) := by intro hh; rw [hh] at hb; simp at hb
  have hargs : cl.args.map a.eval = (args.map a.eval).toArray := by rw [← ha, ← Array.toList_map]
  obtain ⟨c, as, ts⟩ := cl
  simp only at hc ha hargs
  subst hc
  have := hm w
  simp [execOp, hop, resolve, invoke, hv, callMethod, callFunc, hf, hn, hbn, hargs, this]
  exact ⟨rfl, List.take_of_length_le (by simp)⟩
end
end Go.AK


/- The rules of the walk in one; what stands in lists' cells. Conditions: none. -/
set_option linter.unusedSimpArgs false
set_option linter.unusedVariables false
namespace Go.AK
open Go

theorem of_guard {c : Prop} [Decidable c] {α : Type} {x : Option α} {r : α} (h : (if c then x else none) = some r) : c ∧ x = some r := by
  by_cases hc : c
  · rw [if_pos hc] at h; exact ⟨hc, h⟩
  · rw [if_neg hc] at h; cases h
theorem of_bind {α β : Type} {x : Option α} {f : α → Option β} {r : β} (h : (x >>= f) = some r) : ∃ a, x = some a ∧ f a = some r := by
  cases x with
  | none => cases h
  | some a => exact ⟨a, rfl, h⟩
theorem o_opg' {P : Program} {N : Nat} (i : Tmp) (want : Bool) (ao : AO) (r : List RI) (Kp : St → Prop) (t : Tm) (s : Sto) (ma mb : List Nat) : awOps P N (.op (some (i, want)) ao :: r) Kp ⟨t, s, ma, mb⟩ = match t.get i with
    | .c (.sc (.bool b)) => if b = want then onSome (aop ⟨t, s, ma, mb⟩ ao) (awOps P N r Kp) else awOps P N r Kp (if ao.hasDst = true then ⟨t.set ao.dst (.tup []), s, ma, mb⟩ else ⟨t, s, ma, mb⟩)
    | .tup [] => awOps P N r Kp (if ao.hasDst = true then ⟨t.set ao.dst (.tup []), s, ma, mb⟩ else ⟨t, s, ma, mb⟩)
    | _ => False := by
  show onSome (gop _ _ _) _ = _
  unfold gop gd
  simp only
  cases h : t.get i with
  | c x =>
    cases x with
    | sc v =>
      cases v with
      | bool b => cases b <;> cases want <;> simp [onSome]
      | _ => simp [onSome]
    | _ => simp [onSome]
  | g xs => simp [onSome]
  | tup l => cases l <;> simp [onSome]
theorem o_callg {P : Program} {N : Nat} (i : Tmp) (want : Bool) (d : Option Tmp) (f : FuncId) (args : List Operand) (r : List RI) (Kp : St → Prop) (t : Tm) (s : Sto) (ma mb : List Nat) : awOps P N (.call (some (i, want)) d f args :: r) Kp ⟨t, s, ma, mb⟩ = match t.get i with
    | .c (.sc (.bool b)) => if b = want then callK P N d f args (awOps P N r Kp) ⟨t, s, ma, mb⟩ else awOps P N r Kp (putD ⟨t, s, ma, mb⟩ d (.tup []))
    | .tup [] => awOps P N r Kp (putD ⟨t, s, ma, mb⟩ d (.tup []))
    | _ => False := by
  show (match gd t (some (i, want)) with
    | some true => _
    | some false => _
    | none => False) = _
  unfold gd
  simp only
  cases h : t.get i with
  | c x =>
    cases x with
    | sc v =>
      cases v with
      | bool b => cases b <;> cases want <;> simp
      | _ => simp
    | _ => simp
  | g xs => simp
  | tup l => cases l <;> simp
section
variable {P : Program} {N : Nat} {i : Tmp} {ao : AO} {r : List RI} {Kp : St → Prop} {t : Tm} {s : Sto} {ma mb : List Nat} {d : Option Tmp} {f : FuncId} {args : List Operand}
def skipO (ao : AO) (t : Tm) : Tm := if ao.hasDst = true then t.set ao.dst (.tup []) else t
theorem skip_eq (ao : AO) (t : Tm) (s : Sto) (ma mb : List Nat) : (if ao.hasDst = true then (⟨t.set ao.dst (.tup []), s, ma, mb⟩ : St) else ⟨t, s, ma, mb⟩) = ⟨skipO ao t, s, ma, mb⟩ := by unfold skipO; split <;> rfl
theorem g_tt (h : t.get i = .c (.sc (.bool true))) : awOps P N (.op (some (i, true)) ao :: r) Kp ⟨t, s, ma, mb⟩ = onSome (aop ⟨t, s, ma, mb⟩ ao) (awOps P N r Kp) := by rw [o_opg', h]; rfl
theorem g_ff (h : t.get i = .c (.sc (.bool false))) : awOps P N (.op (some (i, false)) ao :: r) Kp ⟨t, s, ma, mb⟩ = onSome (aop ⟨t, s, ma, mb⟩ ao) (awOps P N r Kp) := by rw [o_opg', h]; rfl
theorem g_tf (h : t.get i = .c (.sc (.bool false))) : awOps P N (.op (some (i, true)) ao :: r) Kp ⟨t, s, ma, mb⟩ = awOps P N r Kp ⟨skipO ao t, s, ma, mb⟩ := by rw [o_opg', h, ← skip_eq]; rfl
theorem g_ft (h : t.get i = .c (.sc (.bool true))) : awOps P N (.op (some (i, false)) ao :: r) Kp ⟨t, s, ma, mb⟩ = awOps P N r Kp ⟨skipO ao t, s, ma, mb⟩ := by rw [o_opg', h, ← skip_eq]; rfl
theorem g_n {w : Bool} (h : t.get i = .tup []) : awOps P N (.op (some (i, w)) ao :: r) Kp ⟨t, s, ma, mb⟩ = awOps P N r Kp ⟨skipO ao t, s, ma, mb⟩ := by rw [o_opg', h, ← skip_eq]
theorem gc_tt (h : t.get i = .c (.sc (.bool true))) : awOps P N (.call (some (i, true)) d f args :: r) Kp ⟨t, s, ma, mb⟩ = callK P N d f args (awOps P N r Kp) ⟨t, s, ma, mb⟩ := by rw [o_callg, h]; rfl
theorem gc_ff (h : t.get i = .c (.sc (.bool false))) : awOps P N (.call (some (i, false)) d f args :: r) Kp ⟨t, s, ma, mb⟩ = callK P N d f args (awOps P N r Kp) ⟨t, s, ma, mb⟩ := by rw [o_callg, h]; rfl
theorem gc_tf (h : t.get i = .c (.sc (.bool false))) : awOps P N (.call (some (i, true)) d f args :: r) Kp ⟨t, s, ma, mb⟩ = awOps P N r Kp (putD ⟨t, s, ma, mb⟩ d (.tup [])) := by rw [o_callg, h]; rfl
theorem gc_ft (h : t.get i = .c (.sc (.bool true))) : awOps P N (.call (some (i, false)) d f args :: r) Kp ⟨t, s, ma, mb⟩ = awOps P N r Kp (putD ⟨t, s, ma, mb⟩ d (.tup [])) := by rw [o_callg, h]; rfl
theorem gc_n {w : Bool} (h : t.get i = .tup []) : awOps P N (.call (some (i, w)) d f args :: r) Kp ⟨t, s, ma, mb⟩ = awOps P N r Kp (putD ⟨t, s, ma, mb⟩ d (.tup [])) := by rw [o_callg, h]
end
theorem alt_k {P : Program} {N : Nat} {ps : Pins} {j : Option Nat} {K : St → Prop} {st : St} {ri : RI} {p q : PL} (h : awOps P N [ri] (pinK (pinsL j ps) (awP P N (pinsL j ps) p K)) st) (h2 : awP P N ps q K st) : awP P N ps (.alt ri j p q) K st := ⟨h, h2⟩
theorem alt_e {P : Program} {N : Nat} {ps : Pins} {j : Option Nat} {K : St → Prop} {st : St} {ri : RI} {p : PL} (h : awOps P N [ri] (pinK (pinsL j ps) (awP P N (pinsL j ps) p K)) st) : awP P N ps (.alt ri j p .stop) K st := ⟨h, trivial⟩
section
variable {i : Tmp} {ao : AO} {t : Tm} {s : Sto} {ma mb : List Nat}
theorem pi_tt (h : t.get i = .c (.sc (.bool true))) : pinOk ⟨t, s, ma, mb⟩ (.op (some (i, true)) ao) = (aval ⟨t, s, ma, mb⟩ ao = some (t.get ao.dst)) := by simp only [pinOk, gd, h]; rfl
theorem pi_ff (h : t.get i = .c (.sc (.bool false))) : pinOk ⟨t, s, ma, mb⟩ (.op (some (i, false)) ao) = (aval ⟨t, s, ma, mb⟩ ao = some (t.get ao.dst)) := by simp only [pinOk, gd, h]; rfl
theorem pi_tf (h : t.get i = .c (.sc (.bool false))) : pinOk ⟨t, s, ma, mb⟩ (.op (some (i, true)) ao) = (t.get ao.dst = .tup []) := by simp only [pinOk, gd, h]; rfl
theorem pi_ft (h : t.get i = .c (.sc (.bool true))) : pinOk ⟨t, s, ma, mb⟩ (.op (some (i, false)) ao) = (t.get ao.dst = .tup []) := by simp only [pinOk, gd, h]; rfl
theorem pi_n {w : Bool} (h : t.get i = .tup []) : pinOk ⟨t, s, ma, mb⟩ (.op (some (i, w)) ao) = (t.get ao.dst = .tup []) := by simp only [pinOk, gd, h]
end
theorem ne_lit {k : Nat} : (¬ ((OfNat.ofNat (k + 2) : Int) = 0)) := by
  show ¬ (((k + 2 : Nat) : Int) = 0); omega

/-! ### the rules, for simp -/
theorem akS : (∀ i, Tm.get [] i = AV.c .dead) ∧ (∀ j v r i, Tm.get ((j, v) :: r) i = if j = i then v else Tm.get r i) ∧ (∀ i v, Tm.set [] i v = [(i, v)]) ∧
    (∀ j u r i v, Tm.set ((j, u) :: r) i v = if j = i then (i, v) :: r else (j, u) :: Tm.set r i v) ∧ (∀ k, Sto.get [] k = none) ∧ (∀ k' r s k, Sto.get ((k', r) :: s) k = if k' = k then some r else Sto.get s k) ∧
    (∀ (s : Sto) k p, Sto.blk s k p = (s.get k).bind fun r => walk (r.e, r.cs) p) ∧ (∀ b, walk b [] = some b) ∧ (∀ b i p, walk b (i :: p) = (sub b.2[i]?).bind (walk · p)) ∧
    (∀ e n cs, sub (some (.own e n cs)) = some (e, cs)) ∧ (∀ cs, sub (some (.obx cs)) = some (0, cs)) ∧ (∀ v, sub (some (.sc v)) = none) ∧ (∀ k p o n, sub (some (.ref k p o n)) = none) ∧ (∀ k p c, sub (some (.ptr k p c)) = none) ∧ (sub (some .dead) = none) ∧ (sub none = none) := by
  refine ⟨?_, ?_, ?_, ?_, ?_, ?_, ?_, ?_, ?_, ?_, ?_, ?_, ?_, ?_, ?_, ?_⟩ <;> intros <;> rfl
theorem akO : (∀ P N Kp st, awOps P N [] Kp st = Kp st) ∧ (∀ P N Kp st ao r, awOps P N (.op none ao :: r) Kp st = onSome (aop st ao) (awOps P N r Kp)) ∧ (∀ P N Kp st d f args r, awOps P N (.call none d f args :: r) Kp st = callK P N d f args (awOps P N r Kp) st) ∧
    (∀ P N Kp st ts r, awOps P N (.keep ts :: r) Kp st = awOps P N r Kp (st.keep ts)) ∧ (∀ P N ps Kp st, awP P N ps .done Kp st = Kp st) ∧ (∀ P N ps Kp st ri pl, awP P N ps (.first ri pl) Kp st = awOps P N [ri] (pinK ps (awP P N ps pl Kp)) st) ∧
    (∀ P N ps Kp st u ri pl, awP P N ps (.pin u ri pl) Kp st = awOps P N [ri] (pinK ((u, ri) :: ps) (awP P N ((u, ri) :: ps) pl Kp)) st) ∧ (∀ k st, pinK [] k st = k st) ∧ (∀ r l k st, pinK (r :: l) k st = (pinOk st r.2 ∧ pinK l k st)) ∧
    (∀ st ao, pinOk st (.op none ao) = (aval st ao = some (st.t.get ao.dst))) ∧ (∀ ps, pinsL none ps = ps) ∧ (∀ j ps, pinsL (some j) ps = pinsF j ps) ∧ (∀ j, pinsF j [] = []) ∧ (∀ j r l, pinsF j (r :: l) = if r.1.contains j = true then pinsF j l else r :: pinsF j l) := by
  refine ⟨?_, ?_, ?_, ?_, ?_, ?_, ?_, ?_, ?_, ?_, ?_, ?_, ?_, ?_⟩ <;> intros <;> rfl
theorem akK : (∀ p K st, thenK p K .nrm st = p st) ∧ (∀ p K, thenK p K .nrm = p) ∧ (∀ t, Tm.keep t [] = []) ∧ (∀ t i l, Tm.keep t (i :: l) = (i, t.get i) :: Tm.keep t l) ∧ (∀ t s ma mb ts, St.keep ⟨t, s, ma, mb⟩ ts = ⟨t.keep ts, s, ma, mb⟩) ∧
    (∀ p x, onSome (some x) p = p x) ∧ (∀ p ao st, onSome (vOp st ao) p = ∃ av, aval st ao = some av ∧ p ⟨st.t.set ao.dst av, st.s, st.ma, st.mb⟩) ∧
    (∀ t i, evo t (.tmp i) = t.get i) ∧ (∀ t k n, evo t (.const (.int k n)) = .c (.sc (.int k n))) ∧ (∀ t b, evo t (.const (.bool b)) = .c (.sc (.bool b))) ∧ (∀ t a n c, evo t (.const (.slice a n c)) = .c (.sc (.slice a n c))) ∧
    (∀ t a, evo t (.const (.pointer a)) = .c (.sc (.pointer a))) ∧ (∀ t b, evo t (.const (.string b)) = .c (.sc (.string b))) ∧ (∀ t f, evo t (.func f) = .c (.sc (.func (.func f) #[] #[]))) ∧ (∀ t, evo t (.const .nilFunc) = .c (.sc .nilFunc)) := by
  refine ⟨fun _ _ _ => rfl, fun _ _ => rfl, fun _ => rfl, fun _ _ _ => rfl, fun _ _ _ _ _ => rfl, fun p x => s_some p x, fun p ao st => v_map st ao p, fun _ _ => rfl, fun _ _ _ => rfl, fun _ _ => rfl, fun _ _ _ _ => rfl, fun _ _ => rfl, fun _ _ => rfl, fun _ _ => rfl, fun _ => rfl⟩
theorem akA : (∀ st d x, aop st (.mv d x) = some ⟨st.t.set d (evo st.t x), st.s, st.ma, st.mb⟩) ∧
    (∀ st d zs, aop st (.alloc d zs) = some ⟨(st.free (.tmp d 0)).t.set d (.c (.ptr (.tmp d 0) [] 0)), (st.free (.tmp d 0)).s.set (.tmp d 0) ⟨.box, 0, zs.map .sc⟩, (st.free (.tmp d 0)).ma, (st.free (.tmp d 0)).mb⟩) ∧
    (∀ st d x, aop st (.box d x) = ast st (.box d x)) ∧ (∀ st d e zs n ps, aop st (.bslice d e zs n ps) = ast st (.bslice d e zs n ps)) ∧ (∀ st d e b zs n, aop st (.mslice d e b zs n) = ast st (.mslice d e b zs n)) ∧
    (∀ st sz x v, aop st (.store sz x v) = ast st (.store sz x v)) ∧ (∀ st d e bytes cons x y, aop st (.app d e bytes cons x y) = aapp st d e bytes cons (evo st.t x) (evo st.t y)) ∧
    (∀ st d c x y, aop st (.pick d c x y) = vOp st (.pick d c x y)) ∧ (∀ st d zs ps, aop st (.build d zs ps) = vOp st (.build d zs ps)) ∧ (∀ st d ag sz x, aop st (.load d ag sz x) = vOp st (.load d ag sz x)) ∧
    (∀ st d x, aop st (.nilc d x) = vOp st (.nilc d x)) ∧ (∀ st d o x, aop st (.faddr d o x) = vOp st (.faddr d o x)) ∧ (∀ st d e x i, aop st (.iaddr d e x i) = vOp st (.iaddr d e x i)) ∧ (∀ st d x, aop st (.len d x) = vOp st (.len d x)) ∧
    (∀ st d x, aop st (.slen d x) = vOp st (.slen d x)) ∧ (∀ st d x l h, aop st (.sslice d x l h) = vOp st (.sslice d x l h)) ∧ (∀ st d e x l h, aop st (.slice d e x l h) = vOp st (.slice d e x l h)) ∧ (∀ st d x i, aop st (.extr d x i) = vOp st (.extr d x i)) ∧
    (∀ st d ag o sz x, aop st (.fld d ag o sz x) = vOp st (.fld d ag o sz x)) ∧ (∀ st d op x y, aop st (.bin d op x y) = vOp st (.bin d op x y)) ∧ (∀ st d ng x y, aop st (.beq d ng x y) = vOp st (.beq d ng x y)) ∧ (∀ st d op x, aop st (.un d op x) = vOp st (.un d op x)) ∧
    (∀ st d k x, aop st (.conv d k x) = vOp st (.conv d k x)) ∧ (∀ st d mx xs, aop st (.mm d mx xs) = vOp st (.mm d mx xs)) ∧ (∀ st d x i, aop st (.sidx d x i) = vOp st (.sidx d x i)) ∧ (∀ st d k x, aop st (.mki d k x) = vOp st (.mki d k x)) ∧ (∀ st d ng ks x y, aop st (.aeq d ng ks x y) = vOp st (.aeq d ng ks x y)) ∧ (∀ st d f xs, aop st (.clo d f xs) = vOp st (.clo d f xs)) := by
  refine ⟨?_, ?_, ?_, ?_, ?_, ?_, ?_, ?_, ?_, ?_, ?_, ?_, ?_, ?_, ?_, ?_, ?_, ?_, ?_, ?_, ?_, ?_, ?_, ?_, ?_, ?_, ?_, ?_⟩ <;> intros <;> rfl
theorem akB : (∀ k a b, abin .add (.int k a) (.int k b) = some (.int k (k.wrap (a + b)))) ∧ (∀ k a b, abin .sub (.int k a) (.int k b) = some (.int k (k.wrap (a - b)))) ∧ (∀ k a b, abin .mul (.int k a) (.int k b) = some (.int k (k.wrap (a * b)))) ∧
    (∀ k a b, abin .eql (.int k a) (.int k b) = some (.bool (decide (a = b)))) ∧ (∀ k a b, abin .neq (.int k a) (.int k b) = some (.bool (decide (a ≠ b)))) ∧ (∀ k a b, abin .lss (.int k a) (.int k b) = some (.bool (decide (a < b)))) ∧
    (∀ k a b, abin .leq (.int k a) (.int k b) = some (.bool (decide (a ≤ b)))) ∧ (∀ k a b, abin .gtr (.int k a) (.int k b) = some (.bool (decide (a > b)))) ∧ (∀ k a b, abin .geq (.int k a) (.int k b) = some (.bool (decide (a ≥ b)))) ∧
    (∀ k a b, abin .quo (.int k a) (.int k b) = if b = 0 then none else some (.int k (k.wrap (a.tdiv b)))) ∧ (∀ k a b, abin .rem (.int k a) (.int k b) = if b = 0 then none else some (.int k (a.tmod b))) ∧
    (∀ k a b, abin .and (.int k a) (.int k b) = some (.int k (bits .and k a b))) ∧ (∀ k a b, abin .or (.int k a) (.int k b) = some (.int k (bits .or k a b))) ∧ (∀ k a b, abin .xor (.int k a) (.int k b) = some (.int k (bits .xor k a b))) ∧
    (∀ k a b, abin .andNot (.int k a) (.int k b) = some (.int k (bits .andNot k a b))) := by
  refine ⟨?_, ?_, ?_, ?_, ?_, ?_, ?_, ?_, ?_, ?_, ?_, ?_, ?_, ?_, ?_⟩ <;> intros <;> simp [abin]
theorem akShr (k k' : IntKind) (a b : Int) (h : ¬ b < 0) : abin .shr (.int k a) (.int k' b) = some (.int k (a.fdiv (2 ^ (min b.toNat k.bits)))) := by simp [abin, h]
theorem akShrL (k k' : IntKind) (a : Int) (n : Nat) (hn : n ≤ k.bits) : abin .shr (.int k a) (.int k' (OfNat.ofNat n)) = some (.int k (a.fdiv (2 ^ n))) := by
  have : ¬ ((OfNat.ofNat n : Int) < 0) := by show ¬ (((n : Nat) : Int) < 0); omega
  rw [akShr k k' a _ this]
  show some (Value.int k (a.fdiv (2 ^ (min n k.bits)))) = _
  rw [Nat.min_eq_left hn]
theorem akBits : IntKind.bits .u64 = 64 ∧ IntKind.bits .i64 = 64 ∧ IntKind.bits .u32 = 32 ∧ IntKind.bits .i32 = 32 ∧ IntKind.bits .u8 = 8 ∧ IntKind.bits .u16 = 16 := ⟨rfl, rfl, rfl, rfl, rfl, rfl⟩
theorem akNe : (∀ k k' : Key, (k ≠ k') = ¬ (k = k')) ∧ (∀ k k' : Kind, (k ≠ k') = ¬ (k = k')) ∧ (∀ k k' : Option Key, (k ≠ k') = ¬ (k = k')) := ⟨fun _ _ => rfl, fun _ _ => rfl, fun _ _ => rfl⟩
/-- How a loop ends that ends in two ways. -/
inductive Lp (A B : Type) where
  | a (x : A)
  | b (x : B)
theorem akG : (∀ K, Pls.get [] K = none) ∧ (∀ k P r K, Pls.get ((k, P) :: r) K = if k = K then some P else Pls.get r K) := ⟨fun _ => rfl, fun _ _ _ _ => rfl⟩
theorem akT : (∀ K, Sto.del [] K = []) ∧ (∀ k r s K, Sto.del ((k, r) :: s) K = if k = K then Sto.del s K else (k, r) :: Sto.del s K) ∧ (∀ k r, Sto.set [] k r = [(k, r)]) ∧ (∀ k' r' s k r, Sto.set ((k', r') :: s) k r = if k' = k then (k, r) :: s else (k', r') :: Sto.set s k r) := by
  refine ⟨?_, ?_, ?_, ?_⟩ <;> intros <;> rfl
/-! ### stores into lists -/
section
variable {α : Type} {c : α → List Cell} {w : Nat} {cs : List Cell} {o : Nat} {l : List α} {i : Int}
theorem Vw.le (h : Vw c w cs o l) {j q : Nat} (h0 : 0 ≤ i) (h1 : i < l.length) (hj : j + q ≤ w) : o + i.toNat * w + j + q ≤ cs.length := by
  have h2 := h.len
  have h3 : (i.toNat + 1) * w ≤ l.length * w := Nat.mul_le_mul_right _ (by omega)
  rw [Nat.succ_mul] at h3; omega
theorem Vw.lt (h : Vw c w cs o l) {j : Nat} (h0 : 0 ≤ i) (h1 : i < l.length) (hj : j < w) : o + i.toNat * w + j < cs.length := h.le (q := 1) h0 h1 hj
theorem Vw.len_le (h : Vw c w cs o l) {j : Nat} (h0 : 0 ≤ i) (h1 : i < l.length) (hj : j ≤ w) : o + i.toNat * w + j ≤ cs.length := h.le (q := 0) h0 h1 hj
theorem Vw.all (h : Vw c w cs o l) : (cs.drop o).take (l.length * w) = encL c l := by
  obtain ⟨a, b, rfl, rfl⟩ := h.cells
  rw [List.append_assoc, List.drop_append, List.drop_of_length_le (Nat.le_refl _), Nat.sub_self, List.nil_append, List.drop_zero, ← encL_length h.w l, List.take_append_of_le_length (Nat.le_refl _), List.take_of_length_le (Nat.le_refl _)]
theorem encL_all (h : ∀ x, (c x).all isSc = true) (l : List α) : (encL c l).all isSc = true := by
  induction l with
  | nil => rfl
  | cons a l ih => rw [encL_cons, List.all_append, h, ih]; rfl
end
theorem akU : (∀ k n, aun .neg (.int k n) = some (.int k (k.wrap (0 - n)))) ∧ (∀ b, aun .not (.bool b) = some (.bool (!b))) ∧ (∀ n, aun .xor (.int .u64 n) = some (.int .u64 (bits .xor .u64 18446744073709551615 n))) ∧
    (∀ n, aun .xor (.int .u32 n) = some (.int .u32 (bits .xor .u32 4294967295 n))) ∧ (∀ n, aun .xor (.int .u8 n) = some (.int .u8 (bits .xor .u8 255 n))) ∧ (∀ n, aun .xor (.int .i64 n) = some (.int .i64 (bits .xor .i64 (-1) n))) := by
  refine ⟨fun _ _ => rfl, fun _ => rfl, fun _ => rfl, fun _ => rfl, fun _ => rfl, fun _ => rfl⟩
theorem Weak.nm' {N : Nat} {st : St} (t : Tmp) (K : Key) (e : Nat) (cs : List Cell) (hc : cs = []) (hK : st.s.get K = none) (ht : st.t.get t = .c (.sc (.slice none 0 0))) :
    Weak N st ⟨st.t.set t (.c (.ref K [] 0 0)), st.s.set K ⟨.lst, e, cs⟩, st.ma, st.mb⟩ := by subst hc; exact Weak.nm t K e hK ht
theorem Weak.nmg' {N : Nat} {st : St} (t : Tmp) (i : Nat) (K : Key) (e : Nat) (cs : List Cell) {xs : List Cell} (hc : cs = []) (hK : st.s.get K = none) (ht : st.t.get t = .g xs) (hx : xs[i]? = some (.sc (.slice none 0 0))) :
    Weak N st ⟨st.t.set t (.g (xs.set i (.ref K [] 0 0))), st.s.set K ⟨.lst, e, cs⟩, st.ma, st.mb⟩ := by subst hc; exact Weak.nmg t i K e hK ht hx
section
variable {α : Type} {c : α → List Cell} {w : Nat}
end
/-! ### an element that was set -/
section
variable {α : Type} {c : α → List Cell} {w : Nat} {l : List α} {i : Int}
end
end Go.AK


/- All rules of the walk, in one. Conditions: none. -/
namespace Go.AK
open Go
theorem akp0 : (type_of% @aval.eq_1) ∧ (type_of% @aval.eq_2) ∧ (type_of% @aval.eq_3) ∧ (type_of% @aval.eq_4) ∧ (type_of% @aval.eq_5) ∧ (type_of% @aval.eq_6) ∧ (type_of% @aval.eq_7) ∧ (type_of% @aval.eq_8) ∧ (type_of% @aval.eq_9) ∧ (type_of% @aval.eq_10) ∧ (type_of% @aval.eq_11) ∧ (type_of% @aval.eq_12) ∧ (type_of% @aval.eq_13) ∧ (type_of% @aval.eq_14) ∧ (type_of% @aval.eq_15) ∧ (type_of% @aval.eq_16) ∧ (type_of% @aval.eq_17) ∧ (type_of% @aval.eq_18) ∧ (type_of% @aval.eq_19) ∧ (type_of% @aval.eq_20) ∧ (type_of% @aval.eq_21) ∧ (type_of% @aval.eq_22) ∧ (type_of% @aval.eq_23) ∧ (type_of% @aeqL.eq_1) ∧ (type_of% @aeqL.eq_2) ∧ (type_of% @aeqL.eq_3) ∧ (type_of% @aeqL.eq_4) ∧ (type_of% @capL.eq_1) ∧ (type_of% @capL.eq_2) ∧ (type_of% @scL.eq_1) ∧ (type_of% @scL.eq_2) ∧ (type_of% @scL.eq_3) ∧ (type_of% @AO.dst.eq_1) ∧ (type_of% @AO.dst.eq_2) ∧ (type_of% @AO.dst.eq_3) ∧ (type_of% @AO.dst.eq_4) ∧ (type_of% @AO.dst.eq_5) ∧ (type_of% @AO.dst.eq_6) ∧ (type_of% @AO.dst.eq_7) ∧ (type_of% @AO.dst.eq_8) ∧ (type_of% @AO.dst.eq_9) :=
  ⟨@aval.eq_1, @aval.eq_2, @aval.eq_3, @aval.eq_4, @aval.eq_5, @aval.eq_6, @aval.eq_7, @aval.eq_8, @aval.eq_9, @aval.eq_10, @aval.eq_11, @aval.eq_12, @aval.eq_13, @aval.eq_14, @aval.eq_15, @aval.eq_16, @aval.eq_17, @aval.eq_18, @aval.eq_19, @aval.eq_20, @aval.eq_21, @aval.eq_22, @aval.eq_23, @aeqL.eq_1, @aeqL.eq_2, @aeqL.eq_3, @aeqL.eq_4, @capL.eq_1, @capL.eq_2, @scL.eq_1, @scL.eq_2, @scL.eq_3, @AO.dst.eq_1, @AO.dst.eq_2, @AO.dst.eq_3, @AO.dst.eq_4, @AO.dst.eq_5, @AO.dst.eq_6, @AO.dst.eq_7, @AO.dst.eq_8, @AO.dst.eq_9⟩
theorem akp1 : (type_of% @AO.dst.eq_10) ∧ (type_of% @AO.dst.eq_11) ∧ (type_of% @AO.dst.eq_12) ∧ (type_of% @AO.dst.eq_13) ∧ (type_of% @AO.dst.eq_14) ∧ (type_of% @AO.dst.eq_15) ∧ (type_of% @AO.dst.eq_16) ∧ (type_of% @AO.dst.eq_17) ∧ (type_of% @AO.dst.eq_18) ∧ (type_of% @AO.dst.eq_19) ∧ (type_of% @AO.dst.eq_20) ∧ (type_of% @AO.dst.eq_21) ∧ (type_of% @AO.dst.eq_22) ∧ (type_of% @AO.dst.eq_23) ∧ (type_of% @AO.dst.eq_24) ∧ (type_of% @AO.dst.eq_25) ∧ (type_of% @AO.dst.eq_26) ∧ (type_of% @AO.dst.eq_27) ∧ (type_of% @AO.dst.eq_28) ∧ (type_of% @ast.eq_1) ∧ (type_of% @ast.eq_2) ∧ (type_of% @ast.eq_3) ∧ (type_of% @ast.eq_4) ∧ (type_of% @ast.eq_5) ∧ (type_of% @ast.eq_6) ∧ (type_of% @stores.eq_1) ∧ (type_of% @stores.eq_2) ∧ (type_of% @storeD.eq_1) ∧ (type_of% @storeC.eq_1) ∧ (type_of% @attachable.eq_1) ∧ (type_of% @attachable.eq_2) ∧ (type_of% @attachable.eq_3) ∧ (type_of% @leafOk.eq_1) ∧ (type_of% @leafOk.eq_2) ∧ (type_of% @leafOk.eq_3) ∧ (type_of% @leafOk.eq_4) ∧ (type_of% @isBox.eq_1) ∧ (type_of% @isOwned.eq_1) ∧ (type_of% @cln.eq_1) ∧ (type_of% @cln.eq_2) ∧ (type_of% @cln.eq_3) :=
  ⟨@AO.dst.eq_10, @AO.dst.eq_11, @AO.dst.eq_12, @AO.dst.eq_13, @AO.dst.eq_14, @AO.dst.eq_15, @AO.dst.eq_16, @AO.dst.eq_17, @AO.dst.eq_18, @AO.dst.eq_19, @AO.dst.eq_20, @AO.dst.eq_21, @AO.dst.eq_22, @AO.dst.eq_23, @AO.dst.eq_24, @AO.dst.eq_25, @AO.dst.eq_26, @AO.dst.eq_27, @AO.dst.eq_28, @ast.eq_1, @ast.eq_2, @ast.eq_3, @ast.eq_4, @ast.eq_5, @ast.eq_6, @stores.eq_1, @stores.eq_2, @storeD.eq_1, @storeC.eq_1, @attachable.eq_1, @attachable.eq_2, @attachable.eq_3, @leafOk.eq_1, @leafOk.eq_2, @leafOk.eq_3, @leafOk.eq_4, @isBox.eq_1, @isOwned.eq_1, @cln.eq_1, @cln.eq_2, @cln.eq_3⟩
theorem akp2 : (type_of% @cln.eq_4) ∧ (type_of% @cln.eq_5) ∧ (type_of% @cln.eq_6) ∧ (type_of% @cln.eq_7) ∧ (type_of% @St.letgo.eq_1) ∧ (type_of% @mkRoot.eq_1) ∧ (type_of% @deads.eq_1) ∧ (type_of% @fills.eq_1) ∧ (type_of% @fills.eq_2) ∧ (type_of% @Sto.put.eq_1) ∧ (type_of% @Sto.setBlk.eq_1) ∧ (type_of% @setw.eq_1) ∧ (type_of% @setw.eq_2) ∧ (type_of% @St.free.eq_1) ∧ (type_of% @Sto.kill.eq_1) ∧ (type_of% @killR.eq_1) ∧ (type_of% @killR.eq_2) ∧ (type_of% @killC.eq_1) ∧ (type_of% @killC.eq_2) ∧ (type_of% @killC.eq_3) ∧ (type_of% @kill1.eq_1) ∧ (type_of% @kill1.eq_2) ∧ (type_of% @kill1.eq_3) ∧ (type_of% @Tm.mapT.eq_1) ∧ (type_of% @mapA.eq_1) ∧ (type_of% @mapA.eq_2) ∧ (type_of% @mapA.eq_3) ∧ (type_of% @setM.eq_1) ∧ (type_of% @setM.eq_2) ∧ (type_of% @AV.cells.eq_1) ∧ (type_of% @AV.cells.eq_2) ∧ (type_of% @AV.cells.eq_3) ∧ (type_of% @AV.cells.eq_4) ∧ (type_of% @AK.look.eq_1) ∧ (type_of% @AK.look.eq_2) ∧ (type_of% @AK.look.eq_3) ∧ (type_of% @AK.lookL.eq_1) ∧ (type_of% @AK.lookL.eq_2) ∧ (type_of% @putD.eq_1) ∧ (type_of% @putD.eq_2) ∧ (type_of% @skipO.eq_1) :=
  ⟨@cln.eq_4, @cln.eq_5, @cln.eq_6, @cln.eq_7, @St.letgo.eq_1, @mkRoot.eq_1, @deads.eq_1, @fills.eq_1, @fills.eq_2, @Sto.put.eq_1, @Sto.setBlk.eq_1, @setw.eq_1, @setw.eq_2, @St.free.eq_1, @Sto.kill.eq_1, @killR.eq_1, @killR.eq_2, @killC.eq_1, @killC.eq_2, @killC.eq_3, @kill1.eq_1, @kill1.eq_2, @kill1.eq_3, @Tm.mapT.eq_1, @mapA.eq_1, @mapA.eq_2, @mapA.eq_3, @setM.eq_1, @setM.eq_2, @AV.cells.eq_1, @AV.cells.eq_2, @AV.cells.eq_3, @AV.cells.eq_4, @AK.look.eq_1, @AK.look.eq_2, @AK.look.eq_3, @AK.lookL.eq_1, @AK.lookL.eq_2, @putD.eq_1, @putD.eq_2, @skipO.eq_1⟩
theorem akp3 : (type_of% @AO.hasDst.eq_1) ∧ (type_of% @AO.hasDst.eq_2) ∧ (type_of% @addL.eq_1) ∧ (type_of% @addL.eq_2) ∧ (type_of% @aapp.eq_1) ∧ (type_of% @srcOf.eq_1) ∧ (type_of% @srcOf.eq_2) ∧ (type_of% @srcOf.eq_3) ∧ (type_of% @growTo.eq_1) ∧ (type_of% @growTo.eq_2) ∧ (type_of% @AK.sh.eq_1) ∧ (type_of% @AK.sh.eq_2) ∧ (type_of% @AK.sh.eq_3) ∧ (type_of% @repl.eq_1) ∧ (type_of% @repl.eq_2) ∧ (type_of% @repl.eq_3) ∧ (type_of% @bnd.eq_1) ∧ (type_of% @bnd.eq_2) ∧ (type_of% @if_true.{1}) ∧ (type_of% @if_false.{1}) ∧ (type_of% @and_false) ∧ (type_of% @false_and) ∧ (type_of% @true_and) ∧ (type_of% @and_true) ∧ (type_of% @and_self) ∧ (type_of% @decide_true) ∧ (type_of% @decide_false) ∧ (type_of% @not_false_eq_true) ∧ (type_of% @not_true_eq_false) ∧ (type_of% @Bool.true_or) ∧ (type_of% @Bool.or_true) ∧ (type_of% @Bool.false_or) ∧ (type_of% @Bool.or_false) ∧ (type_of% @Bool.and_true) ∧ (type_of% @Bool.true_and) ∧ (type_of% @Bool.false_and) ∧ (type_of% @Bool.and_false) ∧ (type_of% @Bool.false_eq_true) ∧ (type_of% @Key.arg.injEq) ∧ (type_of% @Key.tmp.injEq) ∧ (type_of% @Key.res.injEq) :=
  ⟨@AO.hasDst.eq_1, @AO.hasDst.eq_2, @addL.eq_1, @addL.eq_2, @aapp.eq_1, @srcOf.eq_1, @srcOf.eq_2, @srcOf.eq_3, @growTo.eq_1, @growTo.eq_2, @AK.sh.eq_1, @AK.sh.eq_2, @AK.sh.eq_3, @repl.eq_1, @repl.eq_2, @repl.eq_3, @bnd.eq_1, @bnd.eq_2, @if_true.{1}, @if_false.{1}, @and_false, @false_and, @true_and, @and_true, @and_self, @decide_true, @decide_false, @not_false_eq_true, @not_true_eq_false, @Bool.true_or, @Bool.or_true, @Bool.false_or, @Bool.or_false, @Bool.and_true, @Bool.true_and, @Bool.false_and, @Bool.and_false, @Bool.false_eq_true, @Key.arg.injEq, @Key.tmp.injEq, @Key.res.injEq⟩
theorem akp4 : (type_of% @Option.map_some.{0,0}) ∧ (type_of% @Option.bind_some.{0,0}) ∧ (type_of% @Option.map_none.{0,0}) ∧ (type_of% @List.getElem?_cons_zero.{0}) ∧ (type_of% @List.getElem?_cons_succ.{0}) ∧ (type_of% @List.length_cons.{0}) ∧ (type_of% @List.length_nil.{0}) ∧ (type_of% @List.drop_zero.{0}) ∧ (type_of% @List.drop_succ_cons.{0}) ∧ (type_of% @List.take_zero.{0}) ∧ (type_of% @List.take_succ_cons.{0}) ∧ (type_of% @List.take_nil.{0}) ∧ (type_of% @List.nil_append.{0}) ∧ (type_of% @List.cons_append.{0}) ∧ (type_of% @List.isEmpty_nil.{0}) ∧ (type_of% @List.isEmpty_cons.{0}) ∧ (type_of% @Function.comp_apply.{1,1,1}) ∧ (type_of% @id_eq.{1}) ∧ (type_of% @List.map_cons.{0,0}) ∧ (type_of% @List.map_nil.{0,0}) ∧ (type_of% @List.set_set.{0}) ∧ (type_of% @List.set_cons_zero.{0}) ∧ (type_of% @List.set_cons_succ.{0}) ∧ (type_of% @List.modify_zero_cons.{0}) ∧ (type_of% @List.modify_succ_cons.{0}) ∧ (type_of% @List.dropLast_singleton.{0}) ∧ (type_of% @List.getLast_singleton.{0}) ∧ (type_of% @x_eq) ∧ (type_of% @x_if) ∧ (type_of% @s_if) ∧ (type_of% @g_tt) ∧ (type_of% @g_ff) ∧ (type_of% @g_tf) ∧ (type_of% @g_ft) ∧ (type_of% @g_n) ∧ (type_of% @gc_tt) ∧ (type_of% @gc_ff) ∧ (type_of% @gc_tf) ∧ (type_of% @gc_ft) ∧ (type_of% @gc_n) ∧ (type_of% @pi_tt) :=
  ⟨@Option.map_some.{0,0}, @Option.bind_some.{0,0}, @Option.map_none.{0,0}, @List.getElem?_cons_zero.{0}, @List.getElem?_cons_succ.{0}, @List.length_cons.{0}, @List.length_nil.{0}, @List.drop_zero.{0}, @List.drop_succ_cons.{0}, @List.take_zero.{0}, @List.take_succ_cons.{0}, @List.take_nil.{0}, @List.nil_append.{0}, @List.cons_append.{0}, @List.isEmpty_nil.{0}, @List.isEmpty_cons.{0}, @Function.comp_apply.{1,1,1}, @id_eq.{1}, @List.map_cons.{0,0}, @List.map_nil.{0,0}, @List.set_set.{0}, @List.set_cons_zero.{0}, @List.set_cons_succ.{0}, @List.modify_zero_cons.{0}, @List.modify_succ_cons.{0}, @List.dropLast_singleton.{0}, @List.getLast_singleton.{0}, @x_eq, @x_if, @s_if, @g_tt, @g_ff, @g_tf, @g_ft, @g_n, @gc_tt, @gc_ff, @gc_tf, @gc_ft, @gc_n, @pi_tt⟩
theorem akp5 : (type_of% @pi_ff) ∧ (type_of% @pi_tf) ∧ (type_of% @pi_ft) ∧ (type_of% @pi_n) ∧ (type_of% @List.contains_nil.{0}) ∧ (type_of% @List.contains_cons.{0}) :=
  ⟨@pi_ff, @pi_tf, @pi_ft, @pi_n, @List.contains_nil.{0}, @List.contains_cons.{0}⟩
theorem kI (a b : Key) : (some a = some b) = (a = b) := Option.some.injEq a b
theorem ak : (type_of% @akp0) ∧ (type_of% @akp1) ∧ (type_of% @akp2) ∧ (type_of% @akp3) ∧ (type_of% @akp4) ∧ (type_of% @akp5) ∧ (type_of% @kI) ∧ (type_of% @akS) ∧ (type_of% @akO) ∧ (type_of% @akK) ∧ (type_of% @akA) ∧ (type_of% @akB) ∧ (type_of% @akU) ∧ (type_of% @akBits) ∧ (type_of% @akNe) ∧ (type_of% @akT) :=
  ⟨@akp0, @akp1, @akp2, @akp3, @akp4, @akp5, @kI, @akS, @akO, @akK, @akA, @akB, @akU, @akBits, @akNe, @akT⟩
theorem akf0 : (type_of% @foc.eq_1) ∧ (type_of% @focL.eq_1) ∧ (type_of% @focL.eq_2) ∧ (type_of% @focR.eq_1) ∧ (type_of% @fits.eq_1) ∧ (type_of% @fits.eq_2) ∧ (type_of% @seg.eq_1) ∧ (type_of% @seg.eq_2) ∧ (type_of% @mapN.eq_1) ∧ (type_of% @mapN.eq_2) ∧ (type_of% @mapN.eq_3) ∧ (type_of% @mapN1.eq_1) ∧ (type_of% @mapN1.eq_2) ∧ (type_of% @mapN1.eq_3) ∧ (type_of% @fwd.eq_1) ∧ (type_of% @fwdR.eq_1) ∧ (type_of% @fwdR.eq_2) ∧ (type_of% @fwd1.eq_1) ∧ (type_of% @fwdQ.eq_1) ∧ (type_of% @fwdQ.eq_2) ∧ (type_of% @fwdP.eq_1) ∧ (type_of% @fwdP.eq_2) ∧ (type_of% @isAt.eq_1) ∧ (type_of% @inR.eq_1) ∧ (type_of% @inR.eq_2) ∧ (type_of% @shOf.eq_1) ∧ (type_of% @shOf.eq_2) ∧ (type_of% @strip.eq_1) ∧ (type_of% @strip.eq_2) ∧ (type_of% @strip.eq_3) ∧ (type_of% @reR.eq_1) ∧ (type_of% @reR.eq_2) ∧ (type_of% @reP.eq_1) ∧ (type_of% @reP.eq_2) ∧ (type_of% @bwd.eq_1) ∧ (type_of% @bwdR.eq_1) ∧ (type_of% @bwdR.eq_2) ∧ (type_of% @upP.eq_1) ∧ (type_of% @upP.eq_2) ∧ (type_of% @killNm.eq_1) ∧ (type_of% @badN.eq_1) :=
  ⟨@foc.eq_1, @focL.eq_1, @focL.eq_2, @focR.eq_1, @fits.eq_1, @fits.eq_2, @seg.eq_1, @seg.eq_2, @mapN.eq_1, @mapN.eq_2, @mapN.eq_3, @mapN1.eq_1, @mapN1.eq_2, @mapN1.eq_3, @fwd.eq_1, @fwdR.eq_1, @fwdR.eq_2, @fwd1.eq_1, @fwdQ.eq_1, @fwdQ.eq_2, @fwdP.eq_1, @fwdP.eq_2, @isAt.eq_1, @inR.eq_1, @inR.eq_2, @shOf.eq_1, @shOf.eq_2, @strip.eq_1, @strip.eq_2, @strip.eq_3, @reR.eq_1, @reR.eq_2, @reP.eq_1, @reP.eq_2, @bwd.eq_1, @bwdR.eq_1, @bwdR.eq_2, @upP.eq_1, @upP.eq_2, @killNm.eq_1, @badN.eq_1⟩
theorem akf1 : (type_of% @badN.eq_2) ∧ (type_of% @memK.eq_1) ∧ (type_of% @memK.eq_2) ∧ (type_of% @isU.eq_1) ∧ (type_of% @Sto.mapN.eq_1) ∧ (type_of% @mapR.eq_1) ∧ (type_of% @outPl.eq_1) ∧ (type_of% @argPl.eq_1) ∧ (type_of% @argPl.eq_2) ∧ (type_of% @resPl.eq_1) ∧ (type_of% @resPl.eq_2) :=
  ⟨@badN.eq_2, @memK.eq_1, @memK.eq_2, @isU.eq_1, @Sto.mapN.eq_1, @mapR.eq_1, @outPl.eq_1, @argPl.eq_1, @argPl.eq_2, @resPl.eq_1, @resPl.eq_2⟩
theorem akF : (type_of% @akf0) ∧ (type_of% @akf1) ∧ (type_of% @akG) :=
  ⟨@akf0, @akf1, @akG⟩
end Go.AK


/- A law's arguments, seen as roots that are only read; what a law's row asks at its end. Conditions: none. -/
set_option linter.unusedSimpArgs false
set_option linter.unusedVariables false
namespace Go.AK
open Go Go.RowKit

/-- A cell, and what it owns, as it lies in memory. -/
inductive MC (w : World) : Cell → Value → Prop
  | sc (u : Value) (h : flat u = true) : MC w (.sc u) u
  | own0 (e : Nat) (a : Option Addr) : MC w (.own e 0 []) (.slice a 0 0)
  | own1 (e n : Nat) (cs : List Cell) (b o cap : Nat) (vf : Nat → Value) (hn : n ≤ cap) (hl : cs.length = n * e) (hc : ∀ j, j < cap * e → (w.cell? ⟨b, o + j, none⟩).isSome)
      (h1 : ∀ i x, cs[i]? = some x → w.cell? ⟨b, o + i, none⟩ = some (vf i)) (h2 : ∀ i x, cs[i]? = some x → MC w x (vf i)) : MC w (.own e n cs) (.slice (some ⟨b, o, none⟩) n cap)

def nextX (w : World) (x : Ext) (i e : Nat) : Ext := match w.cell? (x.at i) with
  | some (.slice (some a) _ cap) => ⟨a.block, a.off, cap * e⟩
  | _ => ⟨0, 0, 0⟩
/-- Where a place lies. -/
def placeX (w : World) : Ext → List Cell → List Nat → Ext
  | x, _, [] => x
  | x, cs, i :: p => match cs[i]? with
    | some (.own e _ cs') => placeX w (nextX w x i e) cs' p
    | _ => x

structure GoodB (w : World) (x : Ext) (cs : List Cell) : Prop where
  len : cs.length ≤ x.cap
  room : ∀ j, j < x.cap → (w.cell? (x.at j)).isSome
  cell : ∀ i y, cs[i]? = some y → ∃ v, w.cell? (x.at i) = some v ∧ MC w y v

theorem GoodB.next {w : World} {x : Ext} {cs : List Cell} (h : GoodB w x cs) {i e n : Nat} {cs' : List Cell} (hi : cs[i]? = some (.own e n cs')) : GoodB w (nextX w x i e) cs' ∧ ∃ cap a, w.cell? (x.at i) = some (.slice a n cap) ∧ n ≤ cap ∧ cs'.length = n * e ∧
    (cap = 0 ∨ (a = some ((nextX w x i e).at 0) ∧ cap * e ≤ (nextX w x i e).cap)) := by
  obtain ⟨v, hv, hm⟩ := h.cell i _ hi
  cases hm with
  | own0 _ a =>
    refine ⟨?_, 0, a, hv, Nat.le_refl _, by simp, .inl rfl⟩
    unfold nextX
    rw [hv]
    cases a with
    | none => exact ⟨Nat.le_refl _, fun j hj => absurd hj (Nat.not_lt_zero j), fun i y hy => by simp at hy⟩
    | some a => exact ⟨Nat.zero_le _, fun j hj => by simp at hj, fun i y hy => by simp at hy⟩
  | own1 _ _ _ b o cap vf hn hl hc h1 h2 =>
    have hx : nextX w x i e = ⟨b, o, cap * e⟩ := by unfold nextX; rw [hv]
    rw [hx]
    refine ⟨⟨?_, fun j hj => hc j hj, fun i y hy => ⟨vf i, h1 i y hy, h2 i y hy⟩⟩, cap, _, hv, hn, hl, .inr ⟨by simp [Ext.at], Nat.le_refl _⟩⟩
    show cs'.length ≤ cap * e
    rw [hl]; exact Nat.mul_le_mul_right _ hn

theorem GoodB.walk {w : World} : ∀ (p : List Nat) {x : Ext} {cs : List Cell} {e0 : Nat}, GoodB w x cs → ∀ {e : Nat} {c1 : List Cell}, walk (e0, cs) p = some (e, c1) → GoodB w (placeX w x cs p) c1
  | [], x, cs, e0, h, e, c1, hw => by simp at hw; obtain ⟨_, rfl⟩ := hw; exact h
  | i :: p, x, cs, e0, h, e, c1, hw => by
    simp only [Go.AK.walk] at hw
    cases hi : cs[i]? with
    | none => rw [hi] at hw; simp at hw
    | some y =>
      rw [hi] at hw
      obtain ⟨v, hv, hm⟩ := h.cell i y hi
      cases y with
      | own e' n cs' =>
        simp only [sub_own, Option.bind_some] at hw
        simp only [placeX, hi]
        exact GoodB.walk p (h.next hi).1 hw
      | obx cs' => cases hm
      | sc u => simp at hw
      | ref k q o n => simp at hw
      | ptr k q c => simp at hw
      | fn f l => simp at hw
      | ifc t c => simp at hw
      | dead => simp at hw
theorem placeX_snoc {w : World} : ∀ (p : List Nat) {x : Ext} {cs : List Cell} {e0 : Nat} {e1 : Nat} {c1 : List Cell} {i e n : Nat} {c2 : List Cell}, GoodB w x cs → walk (e0, cs) p = some (e1, c1) → c1[i]? = some (.own e n c2) → placeX w x cs (p ++ [i]) = nextX w (placeX w x cs p) i e
  | [], x, cs, e0, e1, c1, i, e, n, c2, h, hw, hi => by simp at hw; obtain ⟨_, rfl⟩ := hw; simp [placeX, hi]
  | j :: p, x, cs, e0, e1, c1, i, e, n, c2, h, hw, hi => by
    simp only [Go.AK.walk] at hw
    cases hj : cs[j]? with
    | none => rw [hj] at hw; simp at hw
    | some y =>
      rw [hj] at hw
      obtain ⟨v, hv, hm⟩ := h.cell j y hj
      cases y with
      | own e' n' cs' =>
        simp only [sub_own, Option.bind_some] at hw
        simp only [List.cons_append, placeX, hj]
        exact placeX_snoc p (h.next hj).1 hw hi
      | obx cs' => cases hm
      | _ => simp at hw

/-- All roots are only read, and lie in memory as told. -/
def Lies (w : World) (x0 : Key → Ext) : Sto → Prop
  | [] => True
  | (k, r) :: s => (r.kd = .fz ∧ GoodB w (x0 k) r.cs) ∧ Lies w x0 s
theorem Lies.get {w : World} {x0 : Key → Ext} : ∀ {s : Sto}, Lies w x0 s → ∀ {k : Key} {r : Root}, s.get k = some r → r.kd = .fz ∧ GoodB w (x0 k) r.cs
  | (k', r') :: s, h, k, r, hg => by
    simp only [Sto.get] at hg
    split at hg
    · rename_i hk; cases hg; subst hk; exact h.1
    · exact Lies.get h.2 hg
  | [], _, _, _, hg => by cases hg
def liesX (w : World) (x0 : Key → Ext) (s : Sto) : EM := fun k p => match s.get k with
  | some r => placeX w (x0 k) r.cs p
  | none => ⟨0, 0, 0⟩
theorem Lies.blk {w : World} {x0 : Key → Ext} {s : Sto} (h : Lies w x0 s) {k : Key} {p : List Nat} {e : Nat} {cs : List Cell} (hb : s.blkS k p = some (e, cs)) :
    ∃ r c0, s.get k = some r ∧ walk (r.e, r.cs) p = some (e, c0) ∧ cs = c0.map sh ∧ GoodB w (liesX w x0 s k p) c0 ∧ GoodB w (x0 k) r.cs ∧ liesX w x0 s k p = placeX w (x0 k) r.cs p := by
  simp only [Sto.blkS, Sto.blk] at hb
  cases hg : s.get k with
  | none => rw [hg] at hb; cases hb
  | some r =>
    rw [hg] at hb
    simp only [Option.bind_some, Root.blk] at hb
    obtain ⟨⟨e1, c0⟩, hw, h2⟩ := Option.map_eq_some_iff.1 hb
    simp only [shB, Prod.mk.injEq] at h2
    obtain ⟨rfl, rfl⟩ := h2
    have hx : liesX w x0 s k p = placeX w (x0 k) r.cs p := by simp [liesX, hg]
    exact ⟨r, c0, rfl, hw, rfl, by rw [hx]; exact (h.get hg).2.walk p hw, (h.get hg).2, hx⟩
theorem Lies.rel {w : World} {x0 : Key → Ext} {s : Sto} (h : Lies w x0 s) : HRel (liesX w x0 s) s w where
  cell := fun k p e cs hb i y hy => by
    obtain ⟨r, c0, hg, hw, rfl, hG, hG0, hx⟩ := h.blk hb
    rw [List.getElem?_map] at hy
    obtain ⟨y0, hy0, rfl⟩ := Option.map_eq_some_iff.1 hy
    obtain ⟨v, hv, hm⟩ := hG.cell i y0 hy0
    refine ⟨v, hv, ?_⟩
    cases y0 with
    | sc u => cases hm with | sc _ hf => exact ⟨rfl, hf⟩
    | own e' n cs' =>
      obtain ⟨hG', cap, a, hv', hn, hl, hc⟩ := hG.next hy0
      rw [hv] at hv'
      cases hv'
      have hX : liesX w x0 s k (p ++ [i]) = nextX w (liesX w x0 s k p) i e' := by
        rw [hx]
        have : liesX w x0 s k (p ++ [i]) = placeX w (x0 k) r.cs (p ++ [i]) := by simp [liesX, hg]
        rw [this, placeX_snoc p hG0 hw hy0]
      have hbl : s.blkS k (p ++ [i]) = some (e', cs'.map sh) := by
        simp only [Sto.blkS, Sto.blk, hg, Option.bind_some, Root.blk, walk_append, hw]
        simp [walk, hy0, shB]
      exact ⟨⟨e', _, cap, a, hbl, by simp [hl], hn, rfl, hc.imp id fun ⟨h1, h2⟩ => ⟨by rw [hX]; exact h1, by rw [hX]; simpa using h2⟩⟩, _, hbl, by simpa using hl⟩
    | obx cs' => cases hm
    | ref k q o n => cases hm
    | ptr k q c => cases hm
    | fn f l => cases hm
    | ifc t c => cases hm
    | dead => cases hm
  room := fun k p e cs hb => by
    obtain ⟨r, c0, hg, hw, rfl, hG, hG0, hx⟩ := h.blk hb
    refine ⟨by simpa using hG.len, fun j hj => ⟨hG.room j hj, fun ho => ?_⟩⟩
    obtain ⟨r', hr', hk⟩ := ho
    rw [hg] at hr'
    cases hr'
    exact absurd (h.get hg).1 hk
  apart := fun k p k' p' hb _ ho => by
    obtain ⟨r, hr, hk⟩ := ho
    exact absurd (h.get hr).1 hk
  clean := fun k r hg _ y hy => by
    obtain ⟨i, hi⟩ := List.mem_iff_getElem?.1 hy
    obtain ⟨v, _, hm⟩ := (h.get hg).2.cell i y hi
    cases hm <;> rfl
  cleanD := fun k p i e cs hb y hy => by
    obtain ⟨r, c0, hg, hw, rfl, hG, hG0, hx⟩ := h.blk hb
    obtain ⟨y0, hy0, rfl⟩ := List.mem_map.1 hy
    obtain ⟨j, hj⟩ := List.mem_iff_getElem?.1 hy0
    obtain ⟨v, _, hm⟩ := hG.cell j y0 hj
    cases hm <;> rfl
theorem Lies.owned {w : World} {x0 : Key → Ext} {s : Sto} (h : Lies w x0 s) (k : Key) : ¬ s.owned k := fun ⟨r, hr, hk⟩ => hk (h.get hr).1

/-- A function whose arguments are only read: what it gives back, and that no old block has turned. -/
theorem Tri.reads {P : Program} {f : FuncId} {avs : List AV} {s0 : Sto} {o1 : Out} (T : Tri P f avs s0 (fun o => o = o1)) {w : World} {x0 : Key → Ext} (h : Lies w x0 s0) {vs : List Value} (hv : all2 (VA (liesX w x0 s0) s0) avs vs)
    (hgc : ∀ v, gcell = some v → w.cell? gadr = some v := by intro v h; simp only [gcell, reduceCtorEq] at h) :
    Calls P f vs.toArray w fun e w' => ∃ X' v, e = .returned v ∧ VA X' o1.s o1.v v ∧ Below w.heap.size w w' :=
  (T _ w vs h.rel hv ⟨hgc, fun _ ⟨k, _, _, hown, _⟩ => h.owned k hown⟩).mono fun e w' ⟨o, X', v, ho, he, H', hv', F, Ft, K⟩ => by
    subst ho
    refine ⟨X', v, he, hv', F.os, F.tape, F.output, F.size, fun b hb => F.block b hb fun j ⟨k, q, i, hown, _⟩ => h.owned k hown⟩

/-! ### reading a law's arguments -/
def Opens (P : Program) (t : TypeId) {α : Type} (c : α → List Cell) (good : α → Prop) : Prop :=
  ∀ (H : Type) (enc : TypeId × Value → H) (w : World) (fuel : Nat) (vs : List Value) (x : DataW H × List MemPlace),
    DataW.trod enc P w 0 (fun _ => true) true fuel t vs = some x → ∃ a, all2 (MC w) (c a) vs ∧ good a
theorem opens_int {P : Program} {t : TypeId} {k : IntKind} (ht : P.underlying t = some (.int k)) : Opens P t (fun a => [.sc (.int k a)]) (fun a => (Lit.int k a).wf = true) := by
  intro H enc w fuel cs x h
  obtain ⟨n, rfl, _, hw⟩ := DataW.trod_int ht h
  exact ⟨n, ⟨.sc _ rfl, trivial⟩, hw⟩
theorem list_of {α : Type} (n : Nat) (Q : Nat → α → Prop) (h : ∀ i, i < n → ∃ a, Q i a) : ∃ xs : List α, xs.length = n ∧ ∀ i a, xs[i]? = some a → Q i a := by
  induction n with
  | zero => exact ⟨[], rfl, fun i a ha => by simp at ha⟩
  | succ n ih =>
    obtain ⟨xs, hl, hq⟩ := ih (fun i hi => h i (by omega))
    obtain ⟨a, ha⟩ := h n (by omega)
    refine ⟨xs ++ [a], by simp [hl], fun i b hb => ?_⟩
    rcases Nat.lt_or_ge i xs.length with hi | hi
    · rw [List.getElem?_append_left hi] at hb; exact hq i b hb
    · have hi' : i = xs.length := by
        have := (List.getElem?_eq_some_iff.1 hb).1
        rw [List.length_append, List.length_singleton] at this
        omega
      subst hi'
      have hb' : a = b := by simpa using hb
      subst hb'
      rw [hl]; exact ha
theorem encL_at {α : Type} {c : α → List Cell} {w : Nat} (hw : ∀ x, (c x).length = w) (hpos : 0 < w) {l : List α} {i : Nat} {y : Cell} (h : (encL c l)[i]? = some y) : ∃ a, l[i / w]? = some a ∧ (c a)[i % w]? = some y := by
  have hlt : i < (encL c l).length := (List.getElem?_eq_some_iff.1 h).1
  rw [encL_length hw] at hlt
  have hi : i / w < l.length := Nat.div_lt_of_lt_mul (by rw [Nat.mul_comm]; exact hlt)
  have hm : i % w < w := Nat.mod_lt _ hpos
  have e : i = i / w * w + i % w := by rw [Nat.mul_comm]; exact (Nat.div_add_mod i w).symm
  have := encL_get hw l (i / w) (i % w) hi hm
  rw [← e, h] at this
  exact ⟨l[i / w], List.getElem?_eq_getElem hi, this.symm⟩
/-- What a slice reads as. -/
theorem opens_slice {P : Program} {t e : TypeId} {α : Type} {c : α → List Cell} {w : Nat} {good : α → Prop} (ht : P.underlying t = some (.slice e)) (hw : ∀ x, (c x).length = w) (hC : P.cellsOf e = w) (hpos : 0 < w) (he : Opens P e c good) :
    Opens P t (fun xs => [.own w xs.length (encL c xs)]) (fun xs => xs.length ≤ maxLen ∧ ∀ x ∈ xs, good x) := by
  intro H enc W fuel cs x h
  rcases Go.Deep.open_slice ht h with ⟨rfl, _⟩ | ⟨a, len, cap, m, n, D, Pl, rfl, _, hl, hm, hmm, _, hi⟩
  · exact ⟨[], ⟨.own0 _ _, trivial⟩, by simp, fun x hx => by simp at hx⟩
  · have hm' : m = cap := by simpa using hmm
    subst hm'
    have cellAt : ∀ i, i < m → ∀ j, j < w → ∃ v, W.cell? (a.add (i * w + j)) = some v := fun i hlt j hj => by
      obtain ⟨cs', hc, ht'⟩ := hi i hlt
      obtain ⟨_, hcl, hat⟩ := World.cells?_some hc
      rw [hC] at hcl hat
      have := hat j hj
      rw [← Go.Deep.add_add, this]
      exact ⟨cs'[j]'(by omega), List.getElem?_eq_getElem (by omega)⟩
    have spot : m = 0 ∨ a = ⟨a.block, a.off, none⟩ := by
      rcases Nat.eq_zero_or_pos m with h0 | h0
      · exact .inl h0
      · right
        obtain ⟨v, hv⟩ := cellAt 0 h0 0 hpos
        have : (a.add (0 * w + 0)) = a := by simp [Addr.add]
        rw [this] at hv
        have := World.cell?_spot hv
        obtain ⟨b, o, s⟩ := a
        simp only at this
        subst this
        rfl
    obtain ⟨xs, hxl, hq⟩ := list_of len (fun i a' => (∃ vs : List Value, vs.length = w ∧ all2 (MC W) (c a') vs ∧ ∀ j u, vs[j]? = some u → W.cell? (a.add (i * w + j)) = some u) ∧ good a') (fun i hlt => by
      obtain ⟨cs', hc, ht'⟩ := hi i (Nat.lt_of_lt_of_le hlt hl)
      obtain ⟨b, hb, hg⟩ := he H enc W n cs' _ ht'
      obtain ⟨_, hcl, hat⟩ := World.cells?_some hc
      rw [hC] at hcl hat
      refine ⟨b, ⟨cs', hcl, hb, fun j u hu => ?_⟩, hg⟩
      have := hat j (by have := (List.getElem?_eq_some_iff.1 hu).1; omega)
      rw [← Go.Deep.add_add, this, hu])
    refine ⟨xs, ⟨?_, trivial⟩, by rw [hxl]; exact Nat.le_trans hl hm, fun y hy => ?_⟩
    · rw [hxl]
      rcases spot with h0 | ha
      · have : len = 0 := by omega
        subst h0
        subst this
        have : xs = [] := List.length_eq_zero_iff.1 hxl
        subst this
        exact .own0 _ _
      · rw [ha]
        have base : ∀ j, (⟨a.block, a.off + j, none⟩ : Addr) = a.add j := fun j => by
          rw [ha]; unfold Addr.add
          by_cases hj : j = 0
          · subst hj; simp
          · simp [hj]
        have cellE : ∀ i y, (encL c xs)[i]? = some y → ∃ v, W.cell? (a.add i) = some v ∧ MC W y v := fun i y hy => by
          obtain ⟨b, hb, hy'⟩ := encL_at hw hpos hy
          obtain ⟨⟨vs, h1, h2, h3⟩, _⟩ := hq _ b hb
          obtain ⟨v, hv, hmc⟩ := h2.get hy'
          refine ⟨v, ?_, hmc⟩
          have := h3 _ v hv
          rwa [show i / w * w + i % w = i by rw [Nat.mul_comm]; exact Nat.div_add_mod i w] at this
        refine .own1 w len _ a.block a.off m (fun i => (W.cell? (a.add i)).getD undef) hl (by rw [encL_length hw, hxl]) (fun j hj => ?_) (fun i y hy => ?_) (fun i y hy => ?_)
        · rw [base]
          have hlt : j / w < m := Nat.div_lt_of_lt_mul (by rw [Nat.mul_comm]; exact hj)
          obtain ⟨v, hv⟩ := cellAt (j / w) hlt (j % w) (Nat.mod_lt _ hpos)
          rw [show j / w * w + j % w = j by rw [Nat.mul_comm]; exact Nat.div_add_mod j w] at hv
          rw [hv]; rfl
        · obtain ⟨v, hv, _⟩ := cellE i y hy
          rw [base, hv]; rfl
        · obtain ⟨v, hv, hmc⟩ := cellE i y hy
          rw [hv]; exact hmc
    · obtain ⟨i, hi'⟩ := List.getElem?_of_mem hy
      exact (hq i y hi').2
/-- A slice as an argument: its root, and its name. -/
theorem arg_slice {W : World} {e n : Nat} {cs : List Cell} {v : Value} (h : MC W (.own e n cs) v) : ∃ x : Ext, GoodB W x cs ∧ ∀ (X : EM) (s : Sto) (k : Key), s.get k = some ⟨.fz, e, cs⟩ → X k [] = x → VC X s (.ref k [] 0 n) v := by
  have blk : ∀ {s : Sto} {k : Key}, s.get k = some ⟨.fz, e, cs⟩ → s.blkS k [] = some (e, cs.map sh) := fun hg => by simp [Sto.blkS, Sto.blk, hg, shB]
  cases h with
  | own0 _ a =>
    exact ⟨⟨0, 0, 0⟩, ⟨Nat.le_refl _, fun j hj => absurd hj (Nat.not_lt_zero j), fun i y hy => by simp at hy⟩, fun X s k hg hx => ⟨e, _, 0, a, blk hg, by simp, Nat.le_refl _, rfl, .inl rfl⟩⟩
  | own1 _ _ _ b o cap vf hn hl hc h1 h2 =>
    refine ⟨⟨b, o, cap * e⟩, ⟨?_, hc, fun i y hy => ⟨vf i, h1 i y hy, h2 i y hy⟩⟩, fun X s k hg hx => ⟨e, _, cap, _, blk hg, by simp [hl], hn, rfl, .inr ⟨by rw [hx]; simp [Ext.at], by rw [hx]; simp⟩⟩⟩
    show cs.length ≤ cap * e
    rw [hl]; exact Nat.mul_le_mul_right _ hn
/-! ### short forms -/
@[reducible] def pI (k : Key) (kd : Kind) : Key × Plc := (k, ⟨k, [], none, kd⟩)
@[reducible] def pN (a b : Key) (kd : Kind) : Key × Plc := (a, ⟨b, [], none, kd⟩)
theorem wk {N : Nat} {st st' : St} (ts : List Tmp) (pl : Pls) {s1 : Sto} (hi : indep pl = true := by rfl) (h0 : foc st.s pl = some s1 := by first | rfl | simp +decide only [ak, akF]) (hk : argK pl st.s := by simp [argK, akG, ak])
    (h : (⟨(st.t.keep ts).mapT (mapN (fwd pl)), s1, st.ma, st.mb⟩ : St) = st' := by first | rfl | (simp +decide only [ak, akF]; done)) : Weak N st st' :=
  (Weak.keep ts).trans ((Weak.foc (st := st.keep ts) pl hi h0 hk).trans (Weak.of_eq h))
theorem wkm {N : Nat} {st st' : St} (ma mb : List Nat) (ts : List Tmp) (pl : Pls) {s1 : Sto} (ha : ∀ j ∈ st.ma, j ∈ ma := by simp) (hb : ∀ j ∈ st.mb, j ∈ mb := by simp) (hi : indep pl = true := by rfl) (h0 : foc st.s pl = some s1 := by first | rfl | simp +decide only [ak, akF]) (hk : argK pl st.s := by simp [argK, akG, ak])
    (h : (⟨(st.t.keep ts).mapT (mapN (fwd pl)), s1, ma, mb⟩ : St) = st' := by first | rfl | (simp +decide only [ak, akF]; done)) : Weak N st st' :=
  (Weak.mark ma mb ha hb).trans ((Weak.keep ts).trans ((Weak.foc (st := St.keep ⟨st.t, st.s, ma, mb⟩ ts) pl hi h0 hk).trans (Weak.of_eq h)))
theorem sr_k {P : Program} {N : Nat} {K : AE → St → Prop} {st : St} {l : List RI} {b : AC} (h : ∀ J : St → Prop, (∀ st, awc P N b K st → J st) → awOps P N l J st) : awc P N (.seq (.reg l) b) K st := h _ fun _ h => h
theorem sd_k {P : Program} {N : Nat} {K : AE → St → Prop} {st : St} {p : PL} {ts : List Tmp} {b : AC} (h : ∀ J : St → Prop, (∀ st, awc P N b K st → J st) → awP P N [] p (fun st => J (st.keep ts)) st) : awc P N (.seq (.regD p ts) b) K st := h _ fun _ h => h
end Go.AK


/- What a cell owns is taken out of it, as a root of its own. Conditions: none. -/
set_option linter.unusedSimpArgs false
set_option linter.unusedVariables false
namespace Go.AK
open Go
theorem kill_kill (k : Key) (d : Nat) : (killC k d) ∘ (killC k d) = killC k d := by
  have k11 : ∀ c, kill1 k d (kill1 k d c) = kill1 k d c := fun c => by
    cases c with
    | ref k' p' o' n' => simp only [kill1]; by_cases hh : k' = k ∧ d ≤ p'.length <;> simp [hh, kill1]
    | ptr k' p' c' => simp only [kill1]; by_cases hh : k' = k ∧ d ≤ p'.length <;> simp [hh, kill1]
    | _ => rfl
  funext c
  show killC k d (killC k d c) = killC k d c
  cases c with
  | fn f caps => simp only [killC, List.map_map]; congr 1; exact List.map_congr_left fun c _ => k11 c
  | ifc t c => simp only [killC, k11]
  | ref k' p' o' n' => simp only [killC, kill1]; by_cases hh : k' = k ∧ d ≤ p'.length <;> simp [hh, killC, kill1]
  | ptr k' p' c' => simp only [killC, kill1]; by_cases hh : k' = k ∧ d ≤ p'.length <;> simp [hh, killC, kill1]
  | _ => rfl
/-- The state where the block that the cell (k, pd, i) owns is the root K. -/
def St.takeB (st : St) (K k : Key) (pd : List Nat) (i e : Nat) (cs : List Cell) : St :=
  ⟨st.t.mapT (killC k (pd.length + 1)), ((st.s.kill k (pd.length + 1)).put k pd i .dead).set K ⟨.lst, e, cs⟩, addL st.ma k, st.mb⟩
theorem take_step {B : Base} {N : Nat} {X : EM} {st : St} {a : Act} {w : World} (I : InvX B N X st a w) {K k : Key} (hKa : ∀ j, K ≠ .arg j) (hK : st.s.get K = none) (hkK : k ≠ K) (own0 : st.s.owned k) {pd : List Nat} {i e : Nat} {cs : List Cell} (hb : st.s.blk k (pd ++ [i]) = some (e, cs)) :
    InvX B N (X.cut K k pd i) (st.takeB K k pd i e cs) a w ∧ Tr X st.s k (pd ++ [i]) (X.cut K k pd i) (st.takeB K k pd i e cs).s K [] := by
  have S1 := Stp.kill I.rel k (pd.length + 1)
  have I1 := I.step S1 rfl (ma' := st.ma) (mb' := st.mb) (fun j h => by simpa using h) (fun j h => by simpa using h)
  have hn1 := I.rel.noN_kill k (pd.length + 1)
  have kk1 : ∀ q, q ≠ [] → (st.s.kill k (pd.length + 1)).blk k q = st.s.blk k q := fun q hq => by
    simp only [Sto.blk, Sto.get_kill]
    cases hg : st.s.get k with
    | none => rfl
    | some r =>
      cases q with
      | nil => exact absurd rfl hq
      | cons i q => simp only [Option.map_some, Option.bind_some, Root.blk, killR_e, killR_cs (I.rel.clean k r hg), walk, List.getElem?_map, sub_killC]
  have hb1 : (st.s.kill k (pd.length + 1)).blk k (pd ++ [i]) = some (e, cs) := by rw [kk1 _ (by simp)]; exact hb
  obtain ⟨ep, csp, hbp, xo, hxo, hsub⟩ : ∃ ep csp, (st.s.kill k (pd.length + 1)).blk k pd = some (ep, csp) ∧ ∃ xo, csp[i]? = some xo ∧ sub (some xo) = some (e, cs) := by
    simp only [Sto.blk] at hb1 ⊢
    cases hg : (st.s.kill k (pd.length + 1)).get k with
    | none => simp [hg] at hb1
    | some r =>
      simp only [hg, Option.bind_some, Root.blk] at hb1 ⊢
      rw [walk_append] at hb1
      cases hw : walk (r.e, r.cs) pd with
      | none => simp [hw] at hb1
      | some b =>
        rw [hw, Option.bind_some] at hb1
        refine ⟨b.1, b.2, rfl, ?_⟩
        simp only [walk] at hb1
        cases hx2 : b.2[i]? with
        | none => rw [hx2] at hb1; simp at hb1
        | some xo =>
          refine ⟨xo, rfl, ?_⟩
          rw [hx2] at hb1
          cases hs : sub (some xo) with
          | none => rw [hs] at hb1; simp at hb1
          | some b' => rw [hs] at hb1; simpa using hb1
  have hK1 : (st.s.kill k (pd.length + 1)).get K = none := by rw [Sto.get_kill, hK]; rfl
  have own1 : (st.s.kill k (pd.length + 1)).owned k := Sto.owned_kill.2 own0
  obtain ⟨d1, d2, d3⟩ := S1.rel.detach hK1 hn1 own1 hbp hxo hsub (kd := .lst) (by simp)
  have S2 : Stp X (st.s.kill k (pd.length + 1)) w (X.cut K k pd i) (((st.s.kill k (pd.length + 1)).put k pd i .dead).set K ⟨.lst, e, cs⟩) w (killC k (pd.length + 1)) k.argL [] := {
    rel := d1
    vc := fun c v hv => VC_kill (fun k' q h => d2 k' q fun hk => by subst hk; exact Nat.lt_of_not_le fun hh => h ⟨rfl, hh⟩) hv
    fr := Fr.refl _ _ _
    foot := by
      rintro b ⟨k', q, j, ho, hbb, hj, rfl⟩
      obtain ⟨b', hbb⟩ := Option.isSome_iff_exists.1 hbb
      by_cases hk' : k' = K
      · subst hk'
        have : (X.cut k' k pd i) k' q = X k (pd ++ [i] ++ q) := by unfold EM.cut; rw [if_pos rfl]
        rw [this] at hj ⊢
        refine .inl ⟨k, pd ++ [i] ++ q, j, own1, ?_, hj, rfl⟩
        rw [blkS_new, if_pos rfl] at hbb
        rw [blkS_under hb1, hbb]; rfl
      · have : (X.cut K k pd i) k' q = X k' q := by unfold EM.cut; rw [if_neg hk']
        rw [this] at hj ⊢
        refine .inl ⟨k', q, j, ?_, ?_, hj, rfl⟩
        · obtain ⟨r, g1, g2⟩ := ho
          rw [Sto.get_set, if_neg (fun h => hk' h.symm)] at g1
          exact (Sto.owned_put _ k pd i .dead k').1 ⟨r, g1, g2⟩
        · rw [blkS_new, if_neg (fun h => hk' h.symm), Sto.blkS_put _ k pd i .dead hbp (getElem?_len hxo)] at hbb
          by_cases hkk : k = k'
          · subst hkk
            simp only [if_true] at hbb
            cases hs : strip pd q with
            | none => rw [hs] at hbb; simp only at hbb; rw [hbb]; rfl
            | some u =>
              rw [hs] at hbb
              cases u with
              | nil => have : q = pd := by simpa using strip_some hs
                       rw [this, Sto.blkS_of_blk hbp]; rfl
              | cons j' t' =>
                by_cases hjj : i = j'
                · subst hjj; simp at hbb
                · simp only [hjj, if_false] at hbb; rw [hbb]; rfl
          · simp only [hkk, if_false] at hbb; rw [hbb]; rfl
    k1 := fun j h _ q => d2 _ q fun hk => absurd (by rw [hk]; simp [Key.argL] : j ∈ k.argL) h
    k2 := fun j _ => d2 _ [] fun _ => by simp }
  have I2 := I1.step S2 rfl (ma' := addL st.ma k) (mb' := st.mb) (fun j h => mem_addL h) (fun j h => by simpa using h)
  rw [mapT_mapT, kill_kill] at I2
  refine ⟨I2, ?_⟩
  have t1 : Tr X st.s k (pd ++ [i]) X (st.s.kill k (pd.length + 1)) k (pd ++ [i]) := Tr_kill I.rel k (pd.length + 1) k (pd ++ [i])
  have t2 := d3 []
  simp only [List.append_nil] at t2
  exact t1.trans t2
/-- A component of a struct that names what a cell owns: the block becomes a root of its own, and the component names that. -/
theorem Weak.take {N : Nat} {st st' : St} (t : Tmp) (j : Nat) (K k : Key) (pd : List Nat) (i n : Nat) {e : Nat} {cs : List Cell} {xs : List Cell} (hKa : K.argL = []) (hK : st.s.get K = none) (hkK : k ≠ K) (ho : isOwned st.s k = true)
    (hb : st.s.blk k (pd ++ [i]) = some (e, cs)) (ht : st.t.get t = .g xs) (hx : xs[j]? = some (.ref k (pd ++ [i]) 0 n))
    (h : (⟨(st.takeB K k pd i e cs).t.set t (.g ((xs.map (killC k (pd.length + 1))).set j (.ref K [] 0 n))), (st.takeB K k pd i e cs).s, addL st.ma k, st.mb⟩ : St) = st') : Weak N st st' := h ▸ fun B a w ⟨X, I⟩ => by
  obtain ⟨I', tr⟩ := take_step I (fun j hj => by rw [hj] at hKa; simp [Key.argL] at hKa) hK hkK (isOwned_spec ho) hb
  refine ⟨_, ⟨I'.rel, fun m => ?_, I'.size, I'.defers, I'.fr, I'.foot, I'.keep, I'.gb⟩⟩
  rw [Tm.get_set]
  by_cases h : t = m
  · subst h
    rw [if_pos rfl]
    have h0 := I.tmps t
    have h1 := I'.tmps t
    have h1 : VA _ _ ((st.t.mapT (killC k (pd.length + 1))).get t) _ := h1
    rw [Tm.get_mapT _ _ _ (by rfl), ht] at h1
    rw [ht] at h0
    obtain ⟨vs, h2, h3⟩ := h1
    obtain ⟨vs', h2', h3'⟩ := h0
    rw [h2] at h2'
    refine ⟨vs, h2, all2_setv h3 fun b hb' => ?_⟩
    obtain ⟨b', hb2, hv⟩ := h3'.get hx
    have e2 : vs = vs' := by simpa using h2'
    subst e2
    rw [hb'] at hb2
    cases hb2
    exact VC1_ref tr hv
  · rw [if_neg h]; exact I'.tmps m
/-! ### calls of closures -/
/-- The function value of a number; 0 for none. -/
def fnv (t : Int) : Value := if t = 0 then .nilFunc else .func (.func t.toNat) #[] #[]
end Go.AK


/- Short forms for the printed walks: the same rules with their usual side proofs filled in. Conditions: none. -/
set_option linter.unusedSimpArgs false
set_option linter.unusedVariables false
namespace Go.AK
open Go
/-! ### code -/
@[reducible] def _root_.Go.Operand.t (n : Nat) : Operand := .tmp n
@[reducible] def _root_.Go.Operand.k (i : Int) : Operand := .const (.int .i64 i)
@[reducible] def RI.o (a : AO) : RI := .op none a
@[reducible] def RI.m (d t : Nat) : RI := .op none (.mv d (.tmp t))
@[reducible] def RI.fa (d j t : Nat) : RI := .op none (.faddr d j (.tmp t))
@[reducible] def RI.ld (d n t : Nat) : RI := .op none (.load d false n (.tmp t))
@[reducible] def RI.st (n p t : Nat) : RI := .op none (.store n (.tmp p) (.tmp t))
@[reducible] def RI.ia (d n a b : Nat) : RI := .op none (.iaddr d n (.tmp a) (.tmp b))
@[reducible] def RI.ln (d t : Nat) : RI := .op none (.len d (.tmp t))
@[reducible] def AC.sr (l : List RI) (b : AC) : AC := .seq (.reg l) b
@[reducible] def PL.f (r : RI) (p : PL) : PL := .first r p
/-! ### calls -/
theorem cm {P : Program} {N : Nat} {d : Option Tmp} {f : FuncId} {args : List Operand} {K : St → Prop} {st : St} (pl : Pls) {avs : List AV} {s0 s1 : Sto} {v : AV} {ma mb : List Nat}
    (T : Tri P f avs s0 (fun o => o = ⟨v, s1, ma, mb⟩))
    (h : LenOk s0 s1 mb → ∃ s3 s4, mrgL s1 (bwd pl d) (st.s.mapN (killNm pl ma mb)) pl = some s3 ∧ resL d (bwd pl d) s1 s3 = some s4 ∧
      K (putD ⟨st.t.mapT (mapN (killNm pl ma mb)), s4, upM ma pl st.ma, upM mb pl st.mb⟩ d (mapA (mapN (bwd pl d)) v)))
    (h0 : foc st.s pl = some s0 := by first | rfl | (simp only [reduceCtorEq, Nat.reduceEqDiff, ak, akF]; done) | simp only [reduceCtorEq, Nat.reduceEqDiff, ak, akF, *])
    (hav : (args.map fun o => mapA (mapN (fwd pl)) (evo st.t o)) = avs := by first | rfl | (simp only [reduceCtorEq, Nat.reduceEqDiff, ak, akF]; done) | simp only [reduceCtorEq, Nat.reduceEqDiff, ak, akF, *])
    (hi : indep pl = true := by rfl) (ha : argsOnly pl = true := by rfl) (hd : ∀ t, d = some t → t < N := by intro t ht; cases ht; decide)
    (hb : bkOk2 s0 s1 ma mb pl := by simp [bkOk2, memK]) : callK P N d f args K st := call_m pl hd hi ha h0 T hav hb h
section
variable {K : St → Prop} {s1 s3 s4 : Sto} {bw : Nm} {d : Option Tmp} {pl : Pls} {t : Tm} {s : Sto} {m1 m2 : List Nat} {v : AV}
theorem ct (v' : AV) (h3 : mrgL s1 bw s pl = some s3) (h : K (putD ⟨t, s4, m1, m2⟩ d v')) (h4 : resL d bw s1 s3 = some s4 := by rfl)
    (hv : mapA (mapN bw) v = v' := by first | rfl | (simp only [reduceCtorEq, Nat.reduceEqDiff, ak, akF, Nat.zero_add, List.append_nil]; done) | simp only [reduceCtorEq, Nat.reduceEqDiff, ak, akF, Nat.zero_add, List.append_nil, *]) :
    ∃ s3 s4, mrgL s1 bw (s.mapN (killNm pl [] [])) pl = some s3 ∧ resL d bw s1 s3 = some s4 ∧ K (putD ⟨t.mapT (mapN (killNm pl [] [])), s4, upM [] pl m1, upM [] pl m2⟩ d (mapA (mapN bw) v)) := by
  subst hv
  refine ⟨s3, s4, ?_, h4, ?_⟩
  · rw [Sto.mapN_killNil]; exact h3
  · rw [mapT_killNil, upM_nil, upM_nil]; exact h
/-- A number comes back. -/
theorem cs {x : Value} (h3 : mrgL s1 bw s pl = some s3) (h : K (putD ⟨t, s4, m1, m2⟩ d (.c (.sc x)))) (h4 : resL d bw s1 s3 = some s4 := by rfl) :
    ∃ s3 s4, mrgL s1 bw (s.mapN (killNm pl [] [])) pl = some s3 ∧ resL d bw s1 s3 = some s4 ∧ K (putD ⟨t.mapT (mapN (killNm pl [] [])), s4, upM [] pl m1, upM [] pl m2⟩ d (mapA (mapN bw) (.c (.sc x)))) :=
  ct (.c (.sc x)) h3 h h4 rfl
end
section
variable {s1 s s' : Sto} {bw : Nm} {K k : Key} {P : Plc} {r : Pls} {e : Nat} {cs : List Cell} {kd kd1 : Kind} {new : List Cell}
theorem mN (s1 s : Sto) (bw : Nm) : mrgL s1 bw s [] = some s := rfl
theorem mF (h : mrgL s1 bw s r = some s') (h1 : s1.get K = some ⟨.fz, e, cs⟩ := by rfl)
    (h2 : s'.blk P.k P.p = some (e, cs) := by first | rfl | (simp only [reduceCtorEq, Nat.reduceEqDiff, ak]; done) | simp only [reduceCtorEq, Nat.reduceEqDiff, ak, *]) (hr : P.rng = none := by rfl)
    (hb : ∀ R, s'.get P.k = some R → ¬ (P.p = [] ∧ R.kd = .box) := by intro R hR hh; cases hR; cases hh.2) : mrgL s1 bw s ((K, P) :: r) = some s' := mrgL_fz h h1 h2 hr hb
/-- As mF, of a block that lies deep. -/
theorem mD (h : mrgL s1 bw s r = some s') (h1 : s1.get K = some ⟨.fz, e, cs⟩ := by rfl)
    (h2 : s'.blk P.k P.p = some (e, cs) := by first | rfl | (simp only [reduceCtorEq, Nat.reduceEqDiff, ak]; done) | simp only [reduceCtorEq, Nat.reduceEqDiff, ak, *]) (hr : P.rng = none := by rfl)
    (hb : ∀ R, s'.get P.k = some R → ¬ (P.p = [] ∧ R.kd = .box) := by intro R hR hh; cases hh.1) : mrgL s1 bw s ((K, P) :: r) = some s' := mrgL_fz h h1 h2 hr hb
theorem mW (new' : List Cell) (h : mrgL s1 bw s r = some s') (h1 : s1.get K = some ⟨kd1, e, new⟩ := by rfl) (h2 : s'.get k = some ⟨.box, e, cs⟩ := by rfl)
    (hk : new' = new.map (mapN bw) := by first | rfl | (simp only [reduceCtorEq, Nat.reduceEqDiff, ak, akF, Nat.zero_add, List.append_nil]; done) | simp only [reduceCtorEq, Nat.reduceEqDiff, ak, akF, Nat.zero_add, List.append_nil, *]) :
    mrgL s1 bw s ((K, ⟨k, [], none, kd1⟩) :: r) = some (s'.set k ⟨.box, e, new'⟩) := mrgL_whole h h1 h2 (.inl ⟨rfl, hk⟩)
end
/-! ### ends -/
theorem wj {N : Nat} {st st' : St} (ts : List Tmp) (pl : Pls) {s1 : Sto} (hi : indep pl = true := by rfl) (h0 : foc st.s pl = some s1 := by first | rfl | (simp +decide only [ak, akF]; done) | simp +decide only [ak, akF, *]) (hk : argK pl st.s := by simp [argK, akG, ak])
    (h : (⟨(st.t.keep ts).mapT (mapN (fwd pl)), s1, st.ma, st.mb⟩ : St) = st' := by first | rfl | (simp +decide only [ak, akF]; done) | (simp +decide only [ak, akF, *]; done) | (simp +decide [ak, akF, *] <;> omega)) : Weak N st st' :=
  wk ts pl hi h0 hk h
theorem cl {p : Prop} (h : p := by first | rfl | (simp only [reduceCtorEq, Nat.reduceEqDiff, ak, akF]; done) | (simp only [reduceCtorEq, Nat.reduceEqDiff, ak, akF, *]; done) | (simp [reduceCtorEq, Nat.reduceEqDiff, ak, akF, *] <;> omega)) : p := h
end Go.AK


/- append, whose outcomes are told apart: in place, or a copy. Conditions: none. -/
set_option linter.unusedSimpArgs false
set_option linter.unusedVariables false
namespace Go.AK
open Go

/-- The list grew where it lies; the name te still has its first n. -/
def St.appIn (st : St) (d te : Tmp) (K : Key) (e : Nat) (cs ys : List Cell) (n m : Nat) : St :=
  ⟨(growTo st d K e cs ys (n + m) none st.mb).t.set te (.c (.ref K [] 0 n)), (growTo st d K e cs ys (n + m) none st.mb).s, st.ma, st.mb⟩
/-- The list was copied. -/
def St.appOut (st : St) (d : Tmp) (e : Nat) (cs ys : List Cell) (n m : Nat) : St :=
  ⟨st.t.set d (.c (.ref (.tmp d 0) [] 0 (n + m))), st.s.set (.tmp d 0) ⟨.lst, e, cs ++ ys⟩, st.ma, st.mb⟩

section
variable {P : Program} {B : Base} {N : Nat} {X : EM} {st : St} {a : Act} {w : World}
/-- The values of cells that are scalars. -/
theorem sc_vals (H : HRel X st.s w) {K : Key} {kd : Kind} {e : Nat} {us : List Value} (hK : st.s.get K = some ⟨kd, e, us.map .sc⟩) : (∀ i u, us[i]? = some u → w.cell? ((X K []).at i) = some u) ∧ ∀ u ∈ us, u.oneCell' = true := by
  have hb : st.s.blkS K [] = some (e, (us.map Cell.sc).map sh) := by simp only [Sto.blkS, Sto.blk, hK, Option.bind_some, Root.blk, walk]; rfl
  have hc : ∀ i u, us[i]? = some u → ∃ v, w.cell? ((X K []).at i) = some v ∧ v = u ∧ flat u = true := fun i u hu => by
    obtain ⟨v, h1, h2⟩ := H.cell K [] e _ hb i (.sc u) (by simp [List.getElem?_map, hu])
    exact ⟨v, h1, h2⟩
  refine ⟨fun i u hu => ?_, fun u hu => ?_⟩
  · obtain ⟨v, h1, rfl, _⟩ := hc i u hu; exact h1
  · obtain ⟨i, hi⟩ := List.mem_iff_getElem?.1 hu
    obtain ⟨v, _, _, h2⟩ := hc i u hi; exact h2
theorem AppQ.mk {P : Program} {N : Nat} {st : St} {d e bytes : Nat} {x y : Operand} {Q : St → Prop} (te : Tmp) (K : Key) (n : Nat) (cs : List Cell) (m : Nat) (ys : List Cell) (hte : te ≠ d) (hx : evo st.t x = .c (.ref K [] 0 n)) (hxt : st.t.get te = .c (.ref K [] 0 n))
    (hK : st.s.get K = some ⟨.lst, e, cs⟩) (hn : n * e = cs.length) (hcs : cs.all isSc = true) (hsrc : srcOf st.s e false (evo st.t y) = some (m, ys, none)) (hlim : appLim n m bytes) (hKa : K.argL = []) (hd0 : st.s.get (.tmp d 0) = none)
    (h1 : Q (st.appIn d te K e cs ys n m)) (h2 : Q (st.appOut d e cs ys n m)) : AppQ P N st d e bytes x y Q := by
  intro B X a w t el ty inf z I hd ht hi hz hzl he hb
  subst he hb
  obtain ⟨us, S⟩ := src_sound (P := P) I hsrc
  have hxv := I.ev x
  rw [hx] at hxv
  obtain ⟨e0, cs0, cap, ad, hbk, hl0, hnc, heq, hcap⟩ := hxv
  rw [heq]
  have hbK : st.s.blkS K [] = some (inf.size, cs.map sh) := by simp only [Sto.blkS, Sto.blk, hK, Option.bind_some, Root.blk, walk]; rfl
  rw [hbK] at hbk
  simp only [Option.some.injEq, Prod.mk.injEq] at hbk
  obtain ⟨rfl, rfl⟩ := hbk
  have hv : VC1 X st.s (.ref K [] 0 n) (.slice ad n cap) := ⟨_, _, cap, ad, hbK, hl0, hnc, rfl, hcap⟩
  by_cases hin : n + m ≤ cap
  · obtain ⟨v, w', X', hrun, I', hsame⟩ := grow_same (P := P) I hd ht hi hz hzl ty hK hv hn S (by simp) hlim.1 hlim.2 (mb := st.mb) (fun j h => by rw [hKa] at h; simpa using h)
    obtain ⟨rfl, rfl⟩ := hsame rfl hin
    refine ⟨_, w', _, hrun, h1, X', ⟨I'.rel, fun j => ?_, I'.size, I'.defers, I'.fr, I'.foot, I'.keep, I'.gb⟩⟩
    show VA X' _ (Tm.get (Tm.set _ te _) j) _
    rw [Tm.get_set]
    by_cases h : te = j
    · subst h
      rw [if_pos rfl]
      have h3 : (a.put (some d) (Value.slice ad (n + m) cap)).tmps.getD te undef = a.tmps.getD te undef := by
        simp only [Act.put, Array.getD_eq_getD_getElem?, Array.getElem?_setIfInBounds]
        rw [if_neg (fun hh => hte hh.symm)]
      rw [h3]
      have h0 := I.tmps te
      rw [hxt] at h0
      obtain ⟨e1, cs1, cap1, ad1, g1, g2, g3, g4, g5⟩ := h0
      rw [hbK] at g1
      simp only [Option.some.injEq, Prod.mk.injEq] at g1
      obtain ⟨rfl, rfl⟩ := g1
      refine ⟨inf.size, (cs ++ ys).map sh, cap1, ad1, ?_, by simp only [List.length_map, List.length_append] at g2 ⊢; omega, g3, g4, g5⟩
      show (Sto.set _ K _).blkS K [] = _
      simp only [Sto.blkS, Sto.blk, Sto.get_set, if_true, Option.bind_some, Root.blk, walk, Option.map_some, shB]
    · rw [if_neg h]; exact I'.tmps j
  · have hg : cap < n + m := by omega
    obtain ⟨us0, rfl⟩ := all_isSc hcs
    obtain ⟨hm0, ho0⟩ := sc_vals I.rel hK
    have hul0 : us0.length = n * inf.size := by rw [hn]; simp
    obtain rfl : ys = us.map .sc := by
      rcases S.how with ⟨_, h⟩ | ⟨k, hk, _⟩
      · exact h
      · cases hk
    have hfo : ∀ w', (∀ a, w'.cell? a = w.cell? a) → (Builtin.firstCells inf.size n (.slice ad n cap)).run P w' = .ok us0.toArray w' := fun w' hw' => by
      cases ad with
      | none =>
        rcases hcap with hc | hc
        · have h0 : n = 0 := by omega
          have : us0 = [] := by rw [h0] at hul0; simpa using hul0
          subst this
          rw [run_firstCells_none]
        · cases hc.1
      | some b =>
        rcases hcap with hc | hc
        · have h0 : n = 0 := by omega
          have : us0 = [] := by rw [h0] at hul0; simpa using hul0
          subst this
          exact run_firstCells_some w' inf.size n b n cap [] (by simp [h0]) (by simp)
        · have hb1 := hc.1
          simp only [Option.some.injEq] at hb1
          subst hb1
          exact run_firstCells_some w' inf.size n _ n cap us0 hul0 (fun j v hj => by rw [hw', Ext.at_add, Nat.zero_add]; exact hm0 j v hj)
    have hfit := growslice_fits hg hlim.1
    have hrunA := run_append_out (P := P) (w := w) t ty el inf z ht hi hz ad n cap (a.eval y) m us0 us (S.len w) (hfo w.drew fun _ => rfl) (S.first w.drew fun _ => rfl) hg (by have := hlim.2; omega) hfit
    have hge := grownCap_ge w (n + m) cap el
    have htot : (us0 ++ us).length = (n + m) * inf.size := by rw [List.length_append, hul0, S.ul, Nat.add_mul]
    have hrowl : (us0.toArray ++ us.toArray ++ Builtin.zeroCells z.cells (grownCap w (n + m) cap el - (n + m))).size = grownCap w (n + m) cap el * inf.size := by
      rw [Array.size_append, Array.size_append, zeroCells_size]
      simp only [List.size_toArray, hul0, S.ul]
      simp only [Array.length_toList] at hzl
      rw [hzl, Nat.sub_mul, Nat.add_mul]
      have : (n + m) * inf.size ≤ grownCap w (n + m) cap el * inf.size := Nat.mul_le_mul_right _ hge
      rw [Nat.add_mul] at this
      omega
    have hat : ∀ j, (Ext.mk w.heap.size 0 (grownCap w (n + m) cap el * inf.size)).at j = ⟨w.drew.heap.size, j, none⟩ := fun j => by simp [Ext.at]
    have hcell : ∀ j, (w.drew.alloc (.cells (us0.toArray ++ us.toArray ++ Builtin.zeroCells z.cells (grownCap w (n + m) cap el - (n + m))) el)).cell? ((Ext.mk w.heap.size 0 (grownCap w (n + m) cap el * inf.size)).at j) =
        (us0.toArray ++ us.toArray ++ Builtin.zeroCells z.cells (grownCap w (n + m) cap el - (n + m)))[j]? := fun j => by
      rw [hat, World.cell?_alloc_new]
    have hall : ∀ u ∈ us0 ++ us, u.oneCell' = true := fun u hu => (List.mem_append.1 hu).elim (ho0 u) (S.one u)
    have Sn := Stp.new (w' := w.drew.alloc (.cells (us0.toArray ++ us.toArray ++ Builtin.zeroCells z.cells (grownCap w (n + m) cap el - (n + m))) el)) I.rel hd0 (r := ⟨.lst, inf.size, (us0 ++ us).map .sc⟩)
      (x := ⟨w.heap.size, 0, grownCap w (n + m) cap el * inf.size⟩) (fun x hx => by obtain ⟨u, _, rfl⟩ := List.mem_map.1 hx; rfl) (by simp)
      (fun _ y hy => by obtain ⟨u, _, rfl⟩ := List.mem_map.1 hy; rfl) ((Fr.drew X st.s w).trans (Foot.refl X st.s w) (Fr.alloc _ _ _ _))
      (fun b hb => by
        obtain ⟨h8, h9⟩ := alloc_hold w.drew (.cells (us0.toArray ++ us.toArray ++ Builtin.zeroCells z.cells (grownCap w (n + m) cap el - (n + m))) el) b hb
        exact ⟨h8.trans (World.cell?_drew ..), h9.trans (World.frozen?_drew ..)⟩) (Nat.le_refl _)
      (by simp only [List.length_map]; rw [htot]; exact Nat.mul_le_mul_right _ hge) (fun j hj => by
        refine ⟨by rw [hcell, Array.getElem?_eq_getElem (by rw [hrowl]; exact hj)]; rfl, ?_⟩
        rw [hat]; exact World.frozen?_alloc_new _ _ _ _) (fun i y hy => by
        rw [List.getElem?_map] at hy
        obtain ⟨u, hu, rfl⟩ := Option.map_eq_some_iff.1 hy
        refine ⟨u, ?_, rfl, hall u (List.mem_iff_getElem?.2 ⟨i, hu⟩)⟩
        have hil := getElem?_len hu
        simp only [List.length_append] at hil
        rw [hcell, Array.getElem?_append_left (by simp; omega)]
        simpa using hu)
    have I1 := I.step Sn rfl (ma' := st.ma) (mb' := st.mb) (fun j h => by simpa using h) (fun j h => by simpa using h)
    rw [mapT_id, List.map_append] at I1
    have I2 := I1.put hd (av := .c (.ref (.tmp d 0) [] 0 (n + m))) (v := .slice (some ⟨w.heap.size, 0, none⟩) (n + m) (grownCap w (n + m) cap el)) ⟨inf.size, (us0.map Cell.sc ++ us.map Cell.sc).map sh, grownCap w (n + m) cap el, some ⟨w.heap.size, 0, none⟩, by
      simp only [Sto.blkS, Sto.blk, Sto.get_set, if_true, Option.bind_some, Root.blk, walk, Option.map_some, shB], by simp only [List.length_map, List.length_append] at htot ⊢; omega, hge, rfl, .inr ⟨by rw [lay_K]; simp [Ext.at], by rw [lay_K]; simp⟩⟩
    exact ⟨_, _, _, hrunA, h2, _, I2⟩
end
/-- A list of scalars, shorter: nothing names it. -/
theorem HRel.shrink {X : EM} {s : Sto} {w : World} (H : HRel X s w) {K : Key} {e q : Nat} {us : List Value} (hK : s.get K = some ⟨.lst, e, us.map .sc⟩) (hn : NoN s K 0) :
    HRel X (s.set K ⟨.lst, e, (us.take q).map .sc⟩) w ∧ ∀ k p, K ≠ k → Tr X s k p X (s.set K ⟨.lst, e, (us.take q).map .sc⟩) k p := by
  have lv : ∀ us : List Value, leaves (us.map Cell.sc) := fun us x hx => by obtain ⟨u, _, rfl⟩ := List.mem_map.1 hx; rfl
  have hbK : s.blkS K [] = some (e, (us.map Cell.sc).map sh) := by simp only [Sto.blkS, Sto.blk, hK, Option.bind_some, Root.blk, walk]; rfl
  have hb0 : ∀ {k' p e' cs}, (s.set K ⟨.lst, e, (us.take q).map .sc⟩).blkS k' p = some (e', cs) → (k' = K ∧ p = [] ∧ e' = e ∧ cs = ((us.take q).map Cell.sc).map sh) ∨ (K ≠ k' ∧ s.blkS k' p = some (e', cs)) := by
    intro k' p e' cs hb
    rw [blkS_new] at hb
    by_cases h : K = k'
    · subst h
      rw [if_pos rfl, walkS_leaves (lv _)] at hb
      by_cases hp : p = []
      · rw [if_pos hp] at hb; cases hb; exact .inl ⟨rfl, hp, rfl, rfl⟩
      · rw [if_neg hp] at hb; cases hb
    · rw [if_neg h] at hb; exact .inr ⟨h, hb⟩
  have ht : ∀ k p, K ≠ k → Tr X s k p X (s.set K ⟨.lst, e, (us.take q).map .sc⟩) k p := fun k p h => Tr.eq (by rw [blkS_new, if_neg h])
  refine ⟨H.build (fun k q => (k, q)) (fun k' p e' cs hb => ?_) (fun k q k' q' _ _ h => by simpa using h) (fun a h => ⟨h, rfl⟩) (fun k' p e' cs hb i x hx => ?_) (fun k' r hg hk x hx => ?_) (fun k' p i e' cs hb x hx => ?_), ht⟩
  · rcases hb0 hb with ⟨rfl, rfl, rfl, rfl⟩ | ⟨h1, h2⟩
    · exact ⟨_, hbK, by simp; omega, rfl, fun _ => ⟨_, hK, by simp⟩⟩
    · refine ⟨cs, h2, Nat.le_refl _, rfl, fun ⟨r, hr, hk⟩ => ⟨r, ?_, hk⟩⟩
      rw [Sto.get_set, if_neg h1] at hr; exact hr
  · rcases hb0 hb with ⟨rfl, rfl, rfl, rfl⟩ | ⟨h1, h2⟩
    · rw [List.map_map, List.getElem?_map] at hx
      obtain ⟨u, hu, rfl⟩ := Option.map_eq_some_iff.1 hx
      have hu2 : us[i]? = some u := by
        have hl := getElem?_len hu
        rw [List.length_take] at hl
        rw [List.getElem?_take_of_lt (by omega)] at hu; exact hu
      obtain ⟨v, h1, h2⟩ := H.cell _ [] _ _ hbK i (.sc u) (by simp [List.getElem?_map, hu2])
      exact ⟨v, h1, h2⟩
    · obtain ⟨v, hv, hc⟩ := H.cell k' p _ _ h2 i x hx
      exact ⟨v, hv, HC_tr hc (fun _ => ht _ _ h1) (fun h => VC_tr (fun k'' q hq => ht _ _ (fun he => by subst he; exact absurd (hn k' p e' cs h2 x (List.mem_iff_getElem?.2 ⟨i, hx⟩) q hq) (by omega))) h)⟩
  · rw [Sto.get_set] at hg
    by_cases h : K = k'
    · rw [if_pos h] at hg; cases hg
      obtain ⟨u, _, rfl⟩ := List.mem_map.1 hx; rfl
    · rw [if_neg h] at hg; exact H.clean k' r hg hk x hx
  · rcases hb0 hb with ⟨_, h, _, _⟩ | ⟨_, h2⟩
    · cases h
    · exact H.cleanD k' p i e' cs h2 x hx
/-- A list of scalars is forgotten behind its first n elements; te names these. -/
theorem Weak.shrink {N : Nat} {st st' : St} (te : Tmp) (K : Key) (n : Nat) {e : Nat} {cs cs' : List Cell} (hK : st.s.get K = some ⟨.lst, e, cs⟩) (hc : cs.all isSc = true) (ht : st.t.get te = .c (.ref K [] 0 n)) (hn : n * e ≤ cs.length) (hKa : K.argL = [])
    (hcs : cs' = cs.take (n * e))
    (h : (⟨(st.t.mapT (killC K 0)).set te (.c (.ref K [] 0 n)), (st.s.kill K 0).set K ⟨.lst, e, cs'⟩, st.ma, st.mb⟩ : St) = st') : Weak N st st' := h ▸ fun B a w ⟨X, I⟩ => by
  obtain ⟨us, rfl⟩ := all_isSc hc
  subst hcs
  rw [← List.map_take]
  have S1 := Stp.kill I.rel K 0
  have I1 := I.step S1 rfl (ma' := st.ma) (mb' := st.mb) (fun j h => by simpa using h) (fun j h => by simpa using h)
  have hn1 := I.rel.noN_kill K 0
  have hK1 : (st.s.kill K 0).get K = some ⟨.lst, e, us.map .sc⟩ := by
    rw [Sto.get_kill, hK]; rfl
  obtain ⟨H2, t2⟩ := S1.rel.shrink (q := n * e) hK1 hn1
  have own0 : ∀ {k}, ((st.s.kill K 0).set K ⟨.lst, e, (us.take (n * e)).map .sc⟩).owned k → (st.s.kill K 0).owned k := fun {k} ⟨r, h1, h2⟩ => by
    rw [Sto.get_set] at h1
    by_cases h : K = k
    · subst h; exact ⟨_, hK1, by simp⟩
    · rw [if_neg h] at h1; exact ⟨r, h1, h2⟩
  have S2 : Stp X (st.s.kill K 0) w X ((st.s.kill K 0).set K ⟨.lst, e, (us.take (n * e)).map .sc⟩) w (killC K 0) [] [] := {
    rel := H2
    vc := fun x v hv => VC_kill (fun k' p h => t2 k' p fun hh => h ⟨hh.symm, Nat.zero_le _⟩) hv
    fr := Fr.refl _ _ _
    foot := Foot.of w fun k' q e' cs hb ho => by
      rw [blkS_new] at hb
      by_cases h : K = k'
      · subst h
        rw [if_pos rfl, walkS_leaves (fun x hx => by obtain ⟨u, _, rfl⟩ := List.mem_map.1 hx; rfl)] at hb
        by_cases hq : q = []
        · subst hq
          exact ⟨K, [], by simp only [Sto.blkS, Sto.blk, hK1, Option.bind_some, Root.blk, walk]; rfl, rfl, own0 ho⟩
        · rw [if_neg hq] at hb; cases hb
      · rw [if_neg h] at hb
        exact ⟨k', q, by rw [hb]; rfl, rfl, own0 ho⟩
    k1 := fun j _ _ q => t2 _ q fun hh => by rw [hh] at hKa; simp [Key.argL] at hKa
    k2 := fun j _ => t2 _ [] fun hh => by rw [hh] at hKa; simp [Key.argL] at hKa }
  have I2 := I1.step S2 rfl (ma' := st.ma) (mb' := st.mb) (fun j h => by simpa using h) (fun j h => by simpa using h)
  rw [mapT_mapT, kill_kill] at I2
  refine ⟨X, ⟨I2.rel, fun j => ?_, I2.size, I2.defers, I2.fr, I2.foot, I2.keep, I2.gb⟩⟩
  show VA X _ (Tm.get (Tm.set _ te _) j) _
  rw [Tm.get_set]
  by_cases h : te = j
  · subst h
    rw [if_pos rfl]
    have h0 := I.tmps te
    rw [ht] at h0
    obtain ⟨e1, cs1, cap1, ad1, g1, g2, g3, g4, g5⟩ := h0
    have hbK : st.s.blkS K [] = some (e, (us.map Cell.sc).map sh) := by simp only [Sto.blkS, Sto.blk, hK, Option.bind_some, Root.blk, walk]; rfl
    rw [hbK] at g1
    simp only [Option.some.injEq, Prod.mk.injEq] at g1
    obtain ⟨rfl, rfl⟩ := g1
    refine ⟨e, ((us.take (n * e)).map Cell.sc).map sh, cap1, ad1, by simp only [Sto.blkS, Sto.blk, Sto.get_set, if_true, Option.bind_some, Root.blk, walk]; rfl, ?_, g3, g4, g5⟩
    simp only [List.length_map] at hn
    simp only [List.length_map, List.length_take]; omega
  · rw [if_neg h]; exact I2.tmps j
/-- The same with the states told. -/
theorem appv_k {P : Program} {N : Nat} {st st1 st2 : St} {d e bytes : Nat} {x y : Operand} {Kp : St → Prop} (te : Tmp) (K : Key) (n : Nat) (cs : List Cell) (m : Nat) (ys : List Cell) (hte : te ≠ d) (hx : evo st.t x = .c (.ref K [] 0 n)) (hxt : st.t.get te = .c (.ref K [] 0 n))
    (hK : st.s.get K = some ⟨.lst, e, cs⟩) (hn : n * e = cs.length) (hcs : cs.all isSc = true) (hsrc : srcOf st.s e false (evo st.t y) = some (m, ys, none)) (hlim : appLim n m bytes) (hKa : K.argL = []) (hd0 : st.s.get (.tmp d 0) = none)
    (e1 : st.appIn d te K e cs ys n m = st1) (e2 : st.appOut d e cs ys n m = st2) (h1 : Kp st1) (h2 : Kp st2) : awOps P N [.appv d e bytes x y] Kp st :=
  AppQ.mk te K n cs m ys hte hx hxt hK hn hcs hsrc hlim hKa hd0 (e1 ▸ h1) (e2 ▸ h2)
section
variable {α : Type} {c : α → List Cell} {w : Nat}
theorem encL_takeN (hw : ∀ x, (c x).length = w) (l : List α) (n : Nat) (h : n ≤ l.length) : encL c (l.take n) = (encL c l).take (n * w) := by
  have h1 : encL c l = encL c (l.take n) ++ encL c (l.drop n) := by rw [← encL_append, List.take_append_drop]
  have h2 : (encL c (l.take n)).length = n * w := by rw [encL_length hw, List.length_take, Nat.min_eq_left h]
  rw [h1, List.take_append_of_le_length (by omega)]
  exact (List.take_of_length_le (by omega)).symm
theorem encL_takeA (hw : ∀ x, (c x).length = w) (l m : List α) {n : Nat} (h : n = l.length) : encL c l = (encL c (l ++ m)).take (n * w) := by
  rw [encL_append, List.take_append_of_le_length (by rw [encL_length hw, h]; exact Nat.le_refl _), List.take_of_length_le (by rw [encL_length hw, h]; exact Nat.le_refl _)]
end
end Go.AK


/- Numbers that wrap, and steps of functions that may fail: for plain laws. Conditions: none. -/
set_option linter.unusedSimpArgs false
set_option linter.unusedVariables false
namespace Go.AK
open Go

theorem wu32 (n : Int) : IntKind.u32.wrap n = n % 4294967296 := by simp [IntKind.wrap, IntKind.bits, IntKind.signed]
theorem wu64 (n : Int) : IntKind.u64.wrap n = n % 18446744073709551616 := by simp [IntKind.wrap, IntKind.bits, IntKind.signed]
theorem wi64 (n : Int) : IntKind.i64.wrap n = if n % 18446744073709551616 ≥ 9223372036854775808 then n % 18446744073709551616 - 18446744073709551616 else n % 18446744073709551616 := by simp [IntKind.wrap, IntKind.bits, IntKind.signed]
theorem wi64_in {n : Int} (h : -9223372036854775808 ≤ n) (h' : n ≤ 9223372036854775807) : IntKind.i64.wrap n = n := by rw [wi64]; split <;> omega
theorem wu64_in {n : Int} (h : 0 ≤ n) (h' : n ≤ 18446744073709551615) : IntKind.u64.wrap n = n := by rw [wu64]; omega
theorem wu64_rng (n : Int) : 0 ≤ IntKind.u64.wrap n ∧ IntKind.u64.wrap n < 18446744073709551616 := by rw [wu64]; omega
theorem wu32_rng (n : Int) : 0 ≤ IntKind.u32.wrap n ∧ IntKind.u32.wrap n < 4294967296 := by rw [wu32]; omega
theorem xor64_rng (a b : Int) : 0 ≤ bits .xor .u64 a b ∧ bits .xor .u64 a b < 18446744073709551616 := by
  have : bits .xor .u64 a b = IntKind.u64.wrap ((BitVec.ofInt 64 a ^^^ BitVec.ofInt 64 b).toNat : Int) := rfl
  rw [this]; exact wu64_rng _
/-- What follows a step that gives a. -/
theorem some_bind {α β : Type} {a : α} {f : α → Option β} : (some a >>= f) = f a := rfl
end Go.AK


/- Lists walked by an index, copies, marks: for plain laws. Conditions: none. -/
set_option linter.unusedSimpArgs false
set_option linter.unusedVariables false
namespace Go.AK
open Go
section
variable {α β : Type}
theorem suf_cons {l s : List α} {x : α} {i : Int} (h0 : 0 ≤ i) (h : l.drop i.toNat = x :: s) (z : α) : i < l.length ∧ rd z l i = x ∧ l.drop (i + 1).toNat = s := by
  have h1 : i.toNat < l.length := by
    rcases Nat.lt_or_ge i.toNat l.length with h1 | h1
    · exact h1
    · rw [List.drop_of_length_le h1] at h; cases h
  rw [List.drop_eq_getElem_cons h1] at h
  refine ⟨by omega, ?_, ?_⟩
  · rw [← rd_get z l i h1]; exact (List.cons.inj h).1
  · rw [show (i + 1).toNat = i.toNat + 1 by omega]; exact (List.cons.inj h).2
theorem suf_nil {l : List α} {i : Int} (h0 : 0 ≤ i) (h : l.drop i.toNat = []) : ¬ i < l.length := by
  have := congrArg List.length h
  rw [List.length_drop, List.length_nil] at this; omega
theorem len_snoc {p : List α} {v : α} {i : Int} (h : (p.length : Int) = i) : ((p ++ [v]).length : Int) = i + 1 := by
  subst h; simp
end
end Go.AK
