/- A walk of code over an abstract store, part 1. Conditions: none. -/
import Derived.Test.YtlladicdmmdboaaAk0
import Derived.Orders
import Derived.Deep.LoopGhost
set_option linter.unusedSimpArgs false
set_option linter.unusedVariables false
/- The run of append. Conditions: none. -/
set_option linter.unusedSimpArgs false
set_option linter.unusedVariables false
namespace Go.AK
open Go

section
variable {P : Program} {w : World}

theorem run_append_in (t ty e : TypeId) (i : TypeInfo) (ht : P.underlying t = some (.slice e)) (hi : P.info? e = some i)
    (base : Option Addr) (n cap : Nat) (y : Value) (m : Nat) (news : List Value) (hl : (Builtin.lenOf y).run P w = .ok m w) (hf : (Builtin.firstCells i.size m y).run P w = .ok news.toArray w)
    (hg : n + m ≤ cap) :
    (Builtin.append_ #[t, t] ty #[.slice base n cap, y]).run P w = match base with
      | some a => ((storeCells (a.add (n * i.size)) news).run P w).andThen fun _ w' => .ok (.slice base (n + m) cap) w'
      | none => .ok (.slice base (n + m) cap) w := by
  cases base <;> simp [Builtin.append_, run_underlying ht, sizeOf, typeInfo, hi, hl, hg, hf]

theorem run_append_out (t ty e : TypeId) (i : TypeInfo) (z : Value) (ht : P.underlying t = some (.slice e)) (hi : P.info? e = some i) (hz : i.zero = some z)
    (base : Option Addr) (n cap : Nat) (y : Value) (m : Nat) (olds news : List Value) (hl : (Builtin.lenOf y).run P w = .ok m w)
    (hfo : (Builtin.firstCells i.size n (.slice base n cap)).run P w.drew = .ok olds.toArray w.drew) (hf : (Builtin.firstCells i.size m y).run P w.drew = .ok news.toArray w.drew)
    (hg : cap < n + m) (h63 : ((n + m : Nat) : Int) ≤ 9223372036854775807) (hfit : Builtin.nextslicecap (n + m) cap * i.bytes ≤ 281474976710656) :
    (Builtin.append_ #[t, t] ty #[.slice base n cap, y]).run P w =
      .ok (.slice (some ⟨w.heap.size, 0, none⟩) (n + m) (grownCap w (n + m) cap e))
        (w.drew.alloc (.cells (olds.toArray ++ news.toArray ++ Builtin.zeroCells z.cells (grownCap w (n + m) cap e - (n + m))) e)) := by
  have hn : ¬ (n + m ≤ cap) := by omega
  have h63' : ¬ (9223372036854775807 < ((n : Int) + (m : Int))) := by omega
  have h48' : ¬ (281474976710656 < Builtin.nextslicecap (n + m) cap * i.bytes) := by omega
  simp [Builtin.append_, run_underlying ht, sizeOf, typeInfo, zeroValue, hi, hz, hl, hn, h63', h48', Question.forced, hf, hfo, newRow, grownCap]
  congr 2
  apply Array.ext'
  simp [List.append_assoc]

theorem grownCap_ge (w : World) (need old : Nat) (e : TypeId) : need ≤ grownCap w need old e := by
  unfold grownCap Question.cut; exact Nat.le_add_right _ _

theorem zeroCells_size (z : Array Value) (n : Nat) : (Builtin.zeroCells z n).size = n * z.size := by simp [Builtin.zeroCells]
end

/-! ### two list roots become one -/
section
variable {X : EM} {s : Sto} {w : World}

def EM.join (X : EM) (K k : Key) (n : Nat) : EM := fun k' q => if k' = K then (match q with
  | i :: t => if n ≤ i then X k ((i - n) :: t) else X K (i :: t)
  | [] => X K []) else X k' q

def jor (K k : Key) (n : Nat) (k' : Key) (q : List Nat) : Key × List Nat := if k' = K then (match q with
  | i :: t => if n ≤ i then (k, (i - n) :: t) else (K, i :: t)
  | [] => (K, [])) else (k', q)

/-- The cells of the root k, laid behind those of the root K where they lie in memory already. -/
theorem Stp.join (H : HRel X s w) {K k : Key} {e : Nat} {cs ys : List Cell} (hK : s.get K = some ⟨.lst, e, cs ++ List.replicate ys.length .dead⟩) (hk : s.get k = some ⟨.lst, e, ys⟩) (hne : K ≠ k) (hka : ∀ j, k ≠ .arg j) (hn : NoN s k 0)
    (hm : ∀ j, j < ys.length → w.cell? ((X K []).at (cs.length + j)) = w.cell? ((X k []).at j)) :
    HRel (X.join K k cs.length) ((s.del k).set K ⟨.lst, e, cs ++ ys⟩) w ∧ (∀ k' q, k ≠ k' → Tr X s k' q (X.join K k cs.length) ((s.del k).set K ⟨.lst, e, cs ++ ys⟩) k' q) := by
  have hbk : ∀ q, s.blkS k q = walkS (e, ys) q := fun q => by simp only [Sto.blkS, Sto.blk, hk, Option.bind_some, Root.blk]; rfl
  have hbK : ∀ q, s.blkS K q = walkS (e, cs ++ List.replicate ys.length .dead) q := fun q => by simp only [Sto.blkS, Sto.blk, hK, Option.bind_some, Root.blk]; rfl
  have hset : ∀ k' q, ((s.del k).set K ⟨.lst, e, cs ++ ys⟩).blkS k' q = if K = k' then walkS (e, cs ++ ys) q else if k = k' then none else s.blkS k' q := fun k' q => by
    rw [blkS_new]; by_cases h : K = k'
    · simp [h]
    · rw [if_neg h, if_neg h, Sto.blkS_del]
  have wl : ∀ i q, i < cs.length → walkS (e, cs ++ ys) (i :: q) = s.blkS K (i :: q) := fun i q h => by
    rw [hbK]; show (walk _ _).map _ = (walk _ _).map _
    simp only [walk, List.getElem?_append_left h]
  have wr : ∀ i q, cs.length ≤ i → walkS (e, cs ++ ys) (i :: q) = s.blkS k ((i - cs.length) :: q) := fun i q h => by
    rw [hbk]; show (walk _ _).map _ = (walk _ _).map _
    simp only [walk, List.getElem?_append_right h]
  have wd : ∀ i q, cs.length ≤ i → s.blkS K (i :: q) = none := fun i q h => by
    rw [hbK]; show (walk _ _).map _ = _
    simp only [walk, List.getElem?_append_right h]
    have : sub (List.replicate ys.length Cell.dead)[i - cs.length]? = none := by
      cases hx : (List.replicate ys.length Cell.dead)[i - cs.length]? with
      | none => rfl
      | some y => exact leaves_dead _ y (List.mem_iff_getElem?.2 ⟨_, hx⟩)
    rw [this]; rfl
  have j0 : (X.join K k cs.length) K [] = X K [] := by unfold EM.join; simp
  have jl : ∀ i q, i < cs.length → (X.join K k cs.length) K (i :: q) = X K (i :: q) := fun i q h => by unfold EM.join; simp [Nat.not_le.2 h]
  have jr : ∀ i q, cs.length ≤ i → (X.join K k cs.length) K (i :: q) = X k ((i - cs.length) :: q) := fun i q h => by unfold EM.join; simp [h]
  have jN : ∀ k' q, K ≠ k' → (X.join K k cs.length) k' q = X k' q := fun k' q h => by unfold EM.join; rw [if_neg (fun e => h e.symm)]
  have tr : ∀ k' q, k ≠ k' → Tr X s k' q (X.join K k cs.length) ((s.del k).set K ⟨.lst, e, cs ++ ys⟩) k' q := fun k' q hh e' cs' h => by
    by_cases hK' : K = k'
    · subst hK'
      cases q with
      | nil =>
        rw [hbK] at h
        simp only [walkS, walk, Option.map_some, shB, Option.some.injEq, Prod.mk.injEq] at h
        obtain ⟨rfl, rfl⟩ := h
        exact ⟨(cs ++ ys).map sh, by rw [hset, if_pos rfl]; rfl, by simp, j0⟩
      | cons i q =>
        rcases Nat.lt_or_ge i cs.length with hi | hi
        · exact ⟨cs', by rw [hset, if_pos rfl, wl i q hi]; exact h, rfl, jl i q hi⟩
        · rw [wd i q hi] at h; cases h
    · exact ⟨cs', by rw [hset, if_neg hK', if_neg hh]; exact h, rfl, jN k' q hK'⟩
  have trk : ∀ i q, Tr X s k (i :: q) (X.join K k cs.length) ((s.del k).set K ⟨.lst, e, cs ++ ys⟩) K ((cs.length + i) :: q) := fun i q e' cs' h =>
    ⟨cs', by rw [hset, if_pos rfl, wr _ _ (by omega), Nat.add_sub_cancel_left]; exact h, rfl, by rw [jr _ _ (by omega), Nat.add_sub_cancel_left]⟩
  have leaf : ∀ k' q e' cs', s.blkS k' q = some (e', cs') → ∀ y ∈ cs', ∀ v, VC X s y v → VC (X.join K k cs.length) ((s.del k).set K ⟨.lst, e, cs ++ ys⟩) y v := fun k' q e' cs' h y hy v hv =>
    VC_tr (fun k'' q' hq => tr k'' q' fun hh => by subst hh; exact absurd (hn k' q e' cs' h y hy q' hq) (by omega)) hv
  -- where a place of now comes of
  have orig : ∀ k' q e' cs', ((s.del k).set K ⟨.lst, e, cs ++ ys⟩).blkS k' q = some (e', cs') →
      (k' = K ∧ q = [] ∧ e' = e ∧ cs' = (cs ++ ys).map sh) ∨ (∃ i t, k' = K ∧ q = (cs.length + i) :: t ∧ s.blkS k (i :: t) = some (e', cs')) ∨
      (k ≠ k' ∧ s.blkS k' q = some (e', cs') ∧ (X.join K k cs.length) k' q = X k' q ∧ ¬ (k' = K ∧ q = []) ∧ ∀ i t, ¬ (k' = K ∧ q = (cs.length + i) :: t)) := fun k' q e' cs' h => by
    rw [hset] at h
    by_cases hK' : K = k'
    · subst hK'
      rw [if_pos rfl] at h
      cases q with
      | nil => simp only [walkS, walk, Option.map_some, shB, Option.some.injEq, Prod.mk.injEq] at h; exact .inl ⟨rfl, rfl, h.1.symm, h.2.symm⟩
      | cons i q =>
        rcases Nat.lt_or_ge i cs.length with hi | hi
        · rw [wl i q hi] at h
          exact .inr (.inr ⟨fun hh => hne hh.symm, h, jl i q hi, by simp, fun i' t hh => by have := hh.2; simp at this; omega⟩)
        · rw [wr i q hi] at h
          exact .inr (.inl ⟨i - cs.length, q, rfl, by rw [Nat.add_sub_cancel' hi], h⟩)
    · rw [if_neg hK'] at h
      by_cases hk' : k = k'
      · rw [if_pos hk'] at h; cases h
      · rw [if_neg hk'] at h
        exact .inr (.inr ⟨hk', h, jN k' q hK', fun hh => hK' hh.1.symm, fun i t hh => hK' hh.1.symm⟩)
  have ownd : ∀ k', k ≠ k' → ((s.del k).set K ⟨.lst, e, cs ++ ys⟩).owned k' → s.owned k' := fun k' hh ⟨r', h1, h2⟩ => by
    rw [Sto.get_set] at h1
    by_cases hK' : K = k'
    · subst hK'; exact ⟨_, hK, by simp⟩
    · rw [if_neg hK', Sto.get_del, if_neg hh] at h1; exact ⟨r', h1, h2⟩
  have hbK0 : s.blkS K [] = some (e, (cs ++ List.replicate ys.length Cell.dead).map sh) := by rw [hbK]; rfl
  have hbk0 : s.blkS k [] = some (e, ys.map sh) := by rw [hbk]; rfl
  have o0 : jor K k cs.length K [] = (K, []) := by unfold jor; simp
  have ol : ∀ i q, i < cs.length → jor K k cs.length K (i :: q) = (K, i :: q) := fun i q h => by unfold jor; simp [Nat.not_le.2 h]
  have or_ : ∀ i q, jor K k cs.length K ((cs.length + i) :: q) = (k, i :: q) := fun i q => by unfold jor; simp
  have oN : ∀ k' q, k' ≠ K → jor K k cs.length k' q = (k', q) := fun k' q h => by unfold jor; rw [if_neg h]
  have oX : ∀ k' q, ¬ (∃ i t, k' = K ∧ q = (cs.length + i) :: t) → jor K k cs.length k' q = (k', q) := fun k' q h => by
    by_cases hK' : k' = K
    · subst hK'
      cases q with
      | nil => exact o0
      | cons i t =>
        rcases Nat.lt_or_ge i cs.length with hi | hi
        · exact ol i t hi
        · exact absurd ⟨i - cs.length, t, rfl, by rw [Nat.add_sub_cancel' hi]⟩ h
    · exact oN k' q hK'
  refine ⟨H.build (jor K k cs.length) (fun k' q e' cs' h => ?_) (fun k1 q1 k2 q2 h1 h2 h => ?_) (fun a h => ⟨h, rfl⟩) (fun k' q e' cs' h j y hy => ?_) ?_ ?_, tr⟩
  · rcases orig k' q e' cs' h with ⟨rfl, rfl, rfl, rfl⟩ | ⟨i, t, rfl, rfl, h1⟩ | ⟨hh, h1, h2, h3, h4⟩
    · rw [o0]; exact ⟨_, hbK0, by simp, j0, fun _ => ⟨_, hK, by simp⟩⟩
    · rw [or_]
      exact ⟨cs', h1, Nat.le_refl _, by rw [jr _ _ (by omega), Nat.add_sub_cancel_left], fun _ => ⟨_, hk, by simp⟩⟩
    · rw [oX k' q (fun ⟨i, t, h5⟩ => h4 i t h5)]
      exact ⟨cs', h1, Nat.le_refl _, h2, ownd k' hh⟩
  · have key : ∀ k' q, (((s.del k).set K ⟨.lst, e, cs ++ ys⟩).blkS k' q).isSome → k' ≠ k := fun k' q hh => by
      rintro rfl
      rw [hset, if_neg hne, if_pos rfl] at hh; cases hh
    have n1 := key k1 q1 h1
    have n2 := key k2 q2 h2
    by_cases a1 : ∃ i t, k1 = K ∧ q1 = (cs.length + i) :: t <;> by_cases a2 : ∃ i t, k2 = K ∧ q2 = (cs.length + i) :: t
    · obtain ⟨i1, t1, rfl, rfl⟩ := a1
      obtain ⟨i2, t2, rfl, rfl⟩ := a2
      rw [or_, or_] at h
      simp at h
      exact ⟨rfl, by rw [h.1, h.2]⟩
    · obtain ⟨i1, t1, rfl, rfl⟩ := a1
      rw [or_, oX _ _ a2] at h
      simp at h
      exact absurd h.1.symm n2
    · obtain ⟨i2, t2, rfl, rfl⟩ := a2
      rw [or_, oX _ _ a1] at h
      simp at h
      exact absurd h.1 n1
    · rw [oX _ _ a1, oX _ _ a2] at h; simpa using h
  · rcases orig k' q e' cs' h with ⟨rfl, rfl, rfl, rfl⟩ | ⟨i, t, rfl, rfl, h1⟩ | ⟨hh, h1, h2, h3, h4⟩
    · rw [j0]
      rw [List.map_append] at hy
      rcases Nat.lt_or_ge j cs.length with hj | hj
      · rw [List.getElem?_append_left (by simpa using hj)] at hy
        have hy' : ((cs ++ List.replicate ys.length Cell.dead).map sh)[j]? = some y := by rw [List.map_append, List.getElem?_append_left (by simpa using hj)]; exact hy
        obtain ⟨v, hv1, hv2⟩ := H.cell _ _ _ _ hbK0 j y hy'
        exact ⟨v, hv1, HC_tr hv2 (fun _ => tr _ _ (fun hh => hne hh.symm)) (leaf _ _ _ _ hbK0 y (List.mem_iff_getElem?.2 ⟨j, hy'⟩) v)⟩
      · rw [List.getElem?_append_right (by simpa using hj)] at hy
        simp only [List.length_map] at hy
        obtain ⟨v, hv1, hv2⟩ := H.cell _ _ _ _ hbk0 (j - cs.length) y hy
        have hjl := getElem?_len hy
        simp at hjl
        refine ⟨v, by rw [← hv1, ← hm (j - cs.length) hjl]; rw [Nat.add_sub_cancel' hj], HC_tr hv2 (fun _ => ?_) (leaf _ _ _ _ hbk0 y (List.mem_iff_getElem?.2 ⟨_, hy⟩) v)⟩
        have := trk (j - cs.length) []
        rwa [Nat.add_sub_cancel' hj] at this
    · rw [jr _ _ (by omega), Nat.add_sub_cancel_left]
      obtain ⟨v, hv1, hv2⟩ := H.cell _ _ _ _ h1 j y hy
      refine ⟨v, hv1, HC_tr hv2 (fun _ => ?_) (leaf _ _ _ _ h1 y (List.mem_iff_getElem?.2 ⟨j, hy⟩) v)⟩
      exact trk i (t ++ [j])
    · rw [h2]
      obtain ⟨v, hv1, hv2⟩ := H.cell _ _ _ _ h1 j y hy
      exact ⟨v, hv1, HC_tr hv2 (fun _ => tr _ _ hh) (leaf _ _ _ _ h1 y (List.mem_iff_getElem?.2 ⟨j, hy⟩) v)⟩
  · intro k' r hg hkd y hy
    rw [Sto.get_set] at hg
    by_cases hK' : K = k'
    · rw [if_pos hK'] at hg; cases hg
      rcases List.mem_append.1 hy with h | h
      · exact H.clean K _ hK (by simp) y (List.mem_append_left _ h)
      · exact H.clean k _ hk (by simp) y h
    · rw [if_neg hK', Sto.get_del] at hg
      by_cases hk' : k = k'
      · simp [hk'] at hg
      · rw [if_neg hk'] at hg; exact H.clean k' r hg hkd y hy
  · intro k' q j e' cs' h y hy
    rcases orig k' (j :: q) e' cs' h with ⟨_, h1, _, _⟩ | ⟨i, t, rfl, _, h1⟩ | ⟨hh, h1, _, _, _⟩
    · cases h1
    · exact H.cleanD _ _ _ _ _ h1 y hy
    · exact H.cleanD _ _ _ _ _ h1 y hy
end
end Go.AK


/- append: a list root grows by what another holds. Conditions: none. -/
set_option linter.unusedSimpArgs false
set_option linter.unusedVariables false
namespace Go.AK
open Go

section
variable {P : Program}

theorem storeCells_spec (x : Ext) (A : Addr) : ∀ (us : List Value) (w : World) (c i : Nat) (hA : ∀ j, A.add (i + j) = x.at (c + j)) (hs : ∀ j, j < us.length → (w.cell? (x.at (c + j))).isSome ∧ w.frozen? (x.at (c + j)) = false) (ho : ∀ u ∈ us, u.oneCell' = true),
    ∃ w', (storeCells A us i).run P w = .ok () w' ∧ (∀ j u, us[j]? = some u → w'.cell? (x.at (c + j)) = some u) ∧ (∀ a, (∀ j, j < us.length → a ≠ x.at (c + j)) → w'.cell? a = w.cell? a) ∧ (∀ a, w'.frozen? a = w.frozen? a) ∧
      (∀ X s, (∀ j, j < us.length → ownC X s (x.at (c + j))) → Fr X s w w') ∧ (∀ a, (w'.cell? a).isSome = (w.cell? a).isSome)
  | [], w, c, i, _, _, _ => ⟨w, rfl, by simp, fun _ _ => rfl, fun _ => rfl, fun _ _ _ => Fr.refl _ _ _, fun _ => rfl⟩
  | u :: us, w, c, i, hA, hs, ho => by
    obtain ⟨h1, h2⟩ := hs 0 (by simp)
    simp only [Nat.add_zero] at h1 h2
    have hA0 : A.add i = x.at c := by simpa using hA 0
    obtain ⟨v, hv⟩ := Option.isSome_iff_exists.1 h1
    have hrun : (store (A.add i) u).run P w = .ok () (w.setCell (x.at c) u) := by rw [run_store P w _ u _ (ho u (by simp)), hA0, hv]; simp [h2]
    have hsome : ∀ a, ((w.setCell (x.at c) u).cell? a).isSome = (w.cell? a).isSome := fun a => by
      by_cases h : x.at c = a
      · subst h; rw [World.cell?_setCell_same _ _ _ hv, hv]; rfl
      · rw [World.cell?_setCell_other _ _ _ _ h]
    obtain ⟨w', h3, h4, h5, h6, h7, h8⟩ := storeCells_spec x A us (w.setCell (x.at c) u) (c + 1) (i + 1) (fun j => by have := hA (j + 1); rwa [show i + (j + 1) = i + 1 + j by omega, show c + (j + 1) = c + 1 + j by omega] at this)
      (fun j hj => by
        have := hs (j + 1) (by simp; omega)
        rw [show c + (j + 1) = c + 1 + j by omega] at this
        exact ⟨by rw [hsome]; exact this.1, by simpa using this.2⟩) (fun u hu => ho u (by simp [hu]))
    refine ⟨w', ?_, fun j v' hj => ?_, fun a ha => ?_, fun a => (h6 a).trans (by simp), fun X s ho => ?_, fun a => (h8 a).trans (hsome a)⟩
    · simp only [storeCells, Sem.run_bind, hrun, Result.andThen]; exact h3
    · cases j with
      | zero =>
        simp at hj; subst hj
        rw [h5 _ (fun j _ h => by have := Ext.at_inj h; omega)]
        exact World.cell?_setCell_same _ _ _ hv
      | succ j => have := h4 j v' (by simpa using hj); rwa [show c + 1 + j = c + (j + 1) by omega] at this
    · rw [h5 a (fun j hj => by have := ha (j + 1) (by simp; omega); rwa [show c + (j + 1) = c + 1 + j by omega] at this)]
      exact World.cell?_setCell_other _ _ _ _ (fun h => ha 0 (by simp) (by simpa using h.symm))
    · have hc0 : ownC X s (x.at c) := by simpa using ho 0 (by simp)
      exact (Fr.setCell w hc0 u).trans (Foot.refl _ _ _) (h7 X s fun j hj => by have := ho (j + 1) (by simp; omega); rwa [show c + (j + 1) = c + 1 + j by omega] at this)
end

section
variable {X : EM} {s : Sto} {w : World}

/-- The cells of which nothing was told are scalars. -/
theorem HRel.tell (H : HRel X s w) {K : Key} {e : Nat} {cs : List Cell} {us : List Value} (hK : s.get K = some ⟨.lst, e, cs ++ List.replicate us.length .dead⟩) (hu : ∀ u ∈ us, u.oneCell' = true)
    (hm : ∀ j u, us[j]? = some u → w.cell? ((X K []).at (cs.length + j)) = some u) :
    HRel X (s.set K ⟨.lst, e, cs ++ us.map .sc⟩) w ∧ ∀ k q, Tr X s k q X (s.set K ⟨.lst, e, cs ++ us.map .sc⟩) k q := by
  have hbl := blkS_new (s := s) (K := K) ⟨.lst, e, cs ++ us.map .sc⟩
  have hbK : ∀ q, s.blkS K q = walkS (e, cs ++ List.replicate us.length .dead) q := fun q => by simp only [Sto.blkS, Sto.blk, hK, Option.bind_some, Root.blk]; rfl
  have nosub : ∀ (l : List Cell), leaves l → ∀ (i : Nat), sub l[i]? = none := fun l hl i => by
    cases hx : l[i]? with
    | none => rfl
    | some y => exact hl y (List.mem_iff_getElem?.2 ⟨i, hx⟩)
  have wk : ∀ i q, walkS (e, cs ++ us.map .sc) (i :: q) = s.blkS K (i :: q) := fun i q => by
    rw [hbK]
    show (walk _ _).map _ = (walk _ _).map _
    simp only [walk]
    rcases Nat.lt_or_ge i cs.length with h | h
    · rw [List.getElem?_append_left h, List.getElem?_append_left h]
    · rw [List.getElem?_append_right h, List.getElem?_append_right h, nosub _ (leaves_dead _), nosub _ (fun x hx => by obtain ⟨u, _, rfl⟩ := List.mem_map.1 hx; rfl)]
  have hbK0 : s.blkS K [] = some (e, (cs ++ List.replicate us.length Cell.dead).map sh) := by rw [hbK]; rfl
  have orig : ∀ k q e' cs', (s.set K ⟨.lst, e, cs ++ us.map .sc⟩).blkS k q = some (e', cs') → (k = K ∧ q = [] ∧ e' = e ∧ cs' = (cs ++ us.map Cell.sc).map sh) ∨ (¬ (k = K ∧ q = []) ∧ s.blkS k q = some (e', cs')) := fun k q e' cs' h => by
    rw [hbl] at h
    by_cases hh : K = k
    · subst hh
      rw [if_pos rfl] at h
      cases q with
      | nil => simp only [walkS, walk, Option.map_some, shB, Option.some.injEq, Prod.mk.injEq] at h; exact .inl ⟨rfl, rfl, h.1.symm, h.2.symm⟩
      | cons i q => rw [wk] at h; exact .inr ⟨by simp, h⟩
    · rw [if_neg hh] at h; exact .inr ⟨fun h2 => hh h2.1.symm, h⟩
  have tr : ∀ k q, Tr X s k q X (s.set K ⟨.lst, e, cs ++ us.map .sc⟩) k q := fun k q e' cs' h => by
    by_cases hh : K = k
    · subst hh
      cases q with
      | nil =>
        rw [hbK0] at h
        simp only [Option.some.injEq, Prod.mk.injEq] at h
        obtain ⟨rfl, rfl⟩ := h
        exact ⟨(cs ++ us.map Cell.sc).map sh, by rw [hbl, if_pos rfl]; rfl, by simp, rfl⟩
      | cons i q => exact ⟨cs', by rw [hbl, if_pos rfl, wk]; exact h, rfl, rfl⟩
    · exact ⟨cs', by rw [hbl, if_neg hh]; exact h, rfl, rfl⟩
  have ownd : ∀ k, ((s.set K ⟨.lst, e, cs ++ us.map .sc⟩).owned k → s.owned k) := fun k ⟨r, h1, h2⟩ => by
    rw [Sto.get_set] at h1
    by_cases h : K = k
    · subst h; exact ⟨_, hK, by simp⟩
    · rw [if_neg h] at h1; exact ⟨r, h1, h2⟩
  refine ⟨H.build (fun k q => (k, q)) (fun k q e' cs' h => ?_) (fun k q k' q' _ _ h => by simpa using h) (fun a h => ⟨h, rfl⟩) (fun k q e' cs' h i y hy => ?_) (fun k r hg hk y hy => ?_) (fun k q j e' cs' h y hy => ?_), tr⟩
  · rcases orig k q e' cs' h with ⟨rfl, rfl, rfl, rfl⟩ | ⟨_, h1⟩
    · exact ⟨_, hbK0, by simp, rfl, ownd _⟩
    · exact ⟨_, h1, Nat.le_refl _, rfl, ownd _⟩
  · rcases orig k q e' cs' h with ⟨rfl, rfl, rfl, rfl⟩ | ⟨_, h1⟩
    · rw [List.map_append] at hy
      rcases Nat.lt_or_ge i cs.length with hi | hi
      · rw [List.getElem?_append_left (by simpa using hi)] at hy
        have hy' : ((cs ++ List.replicate us.length Cell.dead).map sh)[i]? = some y := by rw [List.map_append, List.getElem?_append_left (by simpa using hi)]; exact hy
        obtain ⟨v, hv1, hv2⟩ := H.cell _ _ _ _ hbK0 i y hy'
        exact ⟨v, hv1, HC_tr hv2 (fun _ => tr _ _) (VC_tr fun k q _ => tr k q)⟩
      · rw [List.getElem?_append_right (by simpa using hi)] at hy
        simp only [List.length_map, List.map_map, List.getElem?_map] at hy
        obtain ⟨u, hu1, rfl⟩ := Option.map_eq_some_iff.1 hy
        refine ⟨u, ?_, rfl, hu u (List.mem_iff_getElem?.2 ⟨_, hu1⟩)⟩
        have := hm (i - cs.length) u hu1
        rwa [Nat.add_sub_cancel' hi] at this
    · obtain ⟨v, hv1, hv2⟩ := H.cell _ _ _ _ h1 i y hy
      exact ⟨v, hv1, HC_tr hv2 (fun _ => tr _ _) (VC_tr fun k q _ => tr k q)⟩
  · rw [Sto.get_set] at hg
    by_cases hh : K = k
    · rw [if_pos hh] at hg; cases hg
      rcases List.mem_append.1 hy with h | h
      · exact H.clean K _ hK (by simp) y (List.mem_append_left _ h)
      · obtain ⟨u, _, rfl⟩ := List.mem_map.1 h; rfl
    · rw [if_neg hh] at hg; exact H.clean k r hg hk y hy
  · rcases orig k (j :: q) e' cs' h with ⟨_, h1, _, _⟩ | ⟨_, h1⟩
    · cases h1
    · exact H.cleanD _ _ _ _ _ h1 y hy
end
end Go.AK


/- append, as an operation of the walk. Conditions: none. -/
set_option linter.unusedSimpArgs false
set_option linter.unusedVariables false
namespace Go.AK
open Go

def isSc : Cell → Bool
  | .sc _ => true
  | _ => false

/-- The list root K, whose cells are cs, grows by ys; what the root ks held goes over. n: the elements then. -/
def growTo (st : St) (d : Tmp) (K : Key) (e : Nat) (cs ys : List Cell) (n : Nat) (ks : Option Key) (mb : List Nat) : St :=
  match ks with
  | some k => ⟨((st.t.mapT (killC K 0)).mapT (killC k 0)).set d (.c (.ref K [] 0 n)), (((st.s.kill K 0).kill k 0).del k).set K ⟨.lst, e, cs ++ ys⟩, st.ma, mb⟩
  | none => ⟨(st.t.mapT (killC K 0)).set d (.c (.ref K [] 0 n)), (st.s.kill K 0).set K ⟨.lst, e, cs ++ ys⟩, st.ma, mb⟩

section
variable {P : Program} {B : Base} {N : Nat} {X : EM} {st : St} {a : Act} {w : World}

/-- What is known of the source: its values, and where they lie. -/
structure Src (P : Program) (X : EM) (s : Sto) (w : World) (e : Nat) (y : Value) (m : Nat) (ys : List Cell) (ks : Option Key) (us : List Value) : Prop where
  len : ∀ w', (Builtin.lenOf y).run P w' = .ok m w'
  first : ∀ w', (∀ a, w'.cell? a = w.cell? a) → (Builtin.firstCells e m y).run P w' = .ok us.toArray w'
  ul : us.length = m * e
  yl : ys.length = m * e
  one : ∀ u ∈ us, u.oneCell' = true
  how : (ks = none ∧ ys = us.map .sc) ∨ (∃ k, ks = some k ∧ (∀ j, k ≠ .arg j) ∧ s.get k = some ⟨.lst, e, ys⟩ ∧ ∀ j u, us[j]? = some u → w.cell? ((X k []).at j) = some u)

/-- Behind the kill of K's refs: the run, and the root grown, nothing told of the new cells. -/
theorem app_run (I : InvX B N X st a w) {t el : TypeId} {inf : TypeInfo} {z : Value} (ht : P.underlying t = some (.slice el)) (hi : P.info? el = some inf) (hz : inf.zero = some z) (hzl : z.cells.toList.length = inf.size) (ty : TypeId)
    {K : Key} {cs : List Cell} (hK : st.s.get K = some ⟨.lst, inf.size, cs⟩) {ad : Option Addr} {n cap : Nat} (hv : VC1 X st.s (.ref K [] 0 n) (.slice ad n cap)) (hn : n * inf.size = cs.length)
    {y : Value} {m : Nat} {ys : List Cell} {ks : Option Key} {us : List Value} (S : Src P X st.s w inf.size y m ys ks us) (hks : ks ≠ some K) (hlim : (n + m) * inf.bytes ≤ 140737488355328) (hlim2 : n + m ≤ 9223372036854775807) :
    ∃ ad' cap' w' x, (Builtin.append_ #[t, t] ty #[.slice ad n cap, y]).run P w = .ok (.slice ad' (n + m) cap') w' ∧ n + m ≤ cap' ∧ (cap' = 0 ∨ (ad' = some (x.at 0) ∧ cap' * inf.size ≤ x.cap)) ∧
      HRel (X.lay K x) ((st.s.kill K 0).set K ⟨.lst, inf.size, cs ++ List.replicate ys.length .dead⟩) w' ∧ (∀ k q, K ≠ k → Tr X st.s k q (X.lay K x) ((st.s.kill K 0).set K ⟨.lst, inf.size, cs ++ List.replicate ys.length .dead⟩) k q) ∧
      Fr X st.s w w' ∧ (∀ a, ownC (X.lay K x) ((st.s.kill K 0).set K ⟨.lst, inf.size, cs ++ List.replicate ys.length .dead⟩) a → ownC X st.s a ∨ w.heap.size ≤ a.block) ∧
      (∀ j u, us[j]? = some u → w'.cell? (x.at (cs.length + j)) = some u) ∧
      (∀ k r, st.s.get k = some r → K ≠ k → ∀ j, j < r.cs.length → w'.cell? ((X k []).at j) = w.cell? ((X k []).at j)) ∧ (n + m ≤ cap → ad' = ad ∧ cap' = cap ∧ x = X K []) := by
  have H := I.rel
  have H1 := H.kill K 0
  have hN := H.noN_kill K 0
  have hK1 : (st.s.kill K 0).get K = some ⟨.lst, inf.size, cs⟩ := by rw [Sto.get_kill, hK]; rfl
  obtain ⟨e0, cs0, cap0, ad0, hb, hl0, hnc, heq, hcap⟩ := hv
  cases heq
  have hbK : st.s.blkS K [] = some (inf.size, cs.map sh) := by simp only [Sto.blkS, Sto.blk, hK, Option.bind_some, Root.blk, walk]; rfl
  rw [hbK] at hb
  simp only [Option.some.injEq, Prod.mk.injEq] at hb
  obtain ⟨rfl, rfl⟩ := hb
  have hroom := H.room K [] _ _ hbK
  have hown : st.s.owned K := ⟨_, hK, by simp⟩
  have hcsl : cs.length ≤ (X K []).cap := by simpa using hroom.1
  have htot : ys.length = m * inf.size := S.yl
  have hsum : (n + m) * inf.size = cs.length + ys.length := by rw [Nat.add_mul, hn, htot]
  -- the places but K's own row
  have hbS : ∀ k q e' cs', (st.s.kill K 0).blkS k q = some (e', cs') → ∃ cs0, st.s.blkS k q = some (e', cs0) := fun k q e' cs' h => by
    rw [H.blkS_kill] at h
    obtain ⟨b0, h5, h6⟩ := Option.map_eq_some_iff.1 h
    simp at h6
    exact ⟨b0.2, by rw [h5, ← h6.1]⟩
  have footG : ∀ x : Ext, (∀ j, j < x.cap → ownC X st.s (x.at j) ∨ w.heap.size ≤ (x.at j).block) →
      ∀ a, ownC (X.lay K x) ((st.s.kill K 0).set K ⟨.lst, inf.size, cs ++ List.replicate ys.length .dead⟩) a → ownC X st.s a ∨ w.heap.size ≤ a.block := by
    rintro x hx a ⟨k, q, j, ho, hbb, hj, rfl⟩
    by_cases hKq : k = K ∧ q = []
    · obtain ⟨rfl, rfl⟩ := hKq
      rw [lay_K] at hj ⊢
      exact hx j hj
    · have hX : (X.lay K x) k q = X k q := by unfold EM.lay; rw [if_neg hKq]
      rw [hX] at hj ⊢
      left
      obtain ⟨b', hbb⟩ := Option.isSome_iff_exists.1 hbb
      rw [blkS_new] at hbb
      by_cases hk : K = k
      · subst hk
        rw [if_pos rfl] at hbb
        refine ⟨K, q, j, hown, ?_, hj, rfl⟩
        cases q with
        | nil => exact absurd ⟨rfl, rfl⟩ hKq
        | cons i q =>
          have h1 : st.s.blkS K (i :: q) = walkS (inf.size, cs) (i :: q) := by simp only [Sto.blkS, Sto.blk, hK, Option.bind_some, Root.blk]; rfl
          rw [h1]
          have h2 : walkS (inf.size, cs ++ List.replicate ys.length Cell.dead) (i :: q) = walkS (inf.size, cs) (i :: q) := by
            show (walk _ _).map _ = (walk _ _).map _
            simp only [walk]
            rcases Nat.lt_or_ge i cs.length with h | h
            · rw [List.getElem?_append_left h]
            · rw [List.getElem?_append_right h, List.getElem?_eq_none h]
              have : sub (List.replicate ys.length Cell.dead)[i - cs.length]? = none := by
                cases hx : (List.replicate ys.length Cell.dead)[i - cs.length]? with
                | none => rfl
                | some y => exact leaves_dead _ y (List.mem_iff_getElem?.2 ⟨_, hx⟩)
              rw [this]; rfl
          rw [← h2]
          simp only at hbb
          rw [hbb]; rfl
      · rw [if_neg hk] at hbb
        obtain ⟨cs0, h5⟩ := hbS k q b'.1 b'.2 hbb
        obtain ⟨r', h6, h7⟩ := ho
        rw [Sto.get_set, if_neg hk] at h6
        exact ⟨k, q, j, Sto.owned_kill.1 ⟨r', h6, h7⟩, by rw [h5]; rfl, hj, rfl⟩
  by_cases hin : n + m ≤ cap
  · -- in place
    have hbase : m = 0 ∨ (ad = some ((X K []).at 0) ∧ 0 + cap * inf.size ≤ (X K []).cap) := by
      rcases hcap with hc | hc
      · left; omega
      · exact .inr hc
    have hcapX : cs.length + ys.length ≤ (X K []).cap := by
      rcases hcap with hc | hc
      · have : m = 0 := by omega
        have : ys.length = 0 := by rw [htot, this]; simp
        omega
      · rw [← hsum]
        have : (n + m) * inf.size ≤ cap * inf.size := Nat.mul_le_mul_right _ hin
        omega
    obtain ⟨w', hrun, hnew, hoth, hfz, hfr, hsm⟩ := storeCells_spec (P := P) (X K []) ((X K []).at (n * inf.size)) us w (n * inf.size) 0 (fun j => by rw [Ext.at_add]; simp) (fun j hj => by
      have := hroom.2 (n * inf.size + j) (by rw [hn]; have := S.ul; omega)
      exact ⟨this.1, this.2 hown⟩) S.one
    have hfr := hfr X st.s fun j hj => ⟨K, [], n * inf.size + j, hown, by rw [hbK]; rfl, by rw [hn]; have := S.ul; omega, rfl⟩
    have hrunA : (Builtin.append_ #[t, t] ty #[.slice ad n cap, y]).run P w = .ok (.slice ad (n + m) cap) w' := by
      rw [run_append_in t ty el inf ht hi ad n cap y m us (S.len w) (S.first w fun _ => rfl) hin]
      rcases hbase with hm | ⟨hb1, _⟩
      · have : us = [] := by have := S.ul; rw [hm] at this; simpa using this
        subst this
        cases hrun
        cases ad <;> rfl
      · subst hb1
        simp only [Ext.at_add, Nat.zero_add]
        rw [hrun]; rfl
    have hrowne : ∀ k q e' cs', st.s.blkS k q = some (e', cs') → ¬ (k = K ∧ q = []) → ∀ j, j < (X k q).cap → ∀ i, i < (X K []).cap → (X k q).at j ≠ (X K []).at i := fun k q e' cs' h hh j hj i hi hhe =>
      H.apart K [] k q (by rw [hbK]; rfl) (by rw [h]; rfl) hown (fun h2 => hh ⟨h2.1.symm, h2.2.symm⟩) i j hi hj hhe.symm
    obtain ⟨g1, g2⟩ := H1.grow hK1 hN (w' := w') (x := X K []) (m := ys.length) hcapX (fun j hj => by
        rw [hsm, hfz]; exact ⟨(hroom.2 j hj).1, (hroom.2 j hj).2 hown⟩)
      (fun k q e' cs' h hh j hj => by
        obtain ⟨cs0, h5⟩ := hbS k q e' cs' h
        refine ⟨hoth _ fun i hi => hrowne k q e' cs0 h5 hh j hj _ (by rw [hn]; have := S.ul; omega), hfz _, fun i hi => hrowne k q e' cs0 h5 hh j hj i hi⟩)
      (fun i hi => hoth _ fun j hj hh => by have := Ext.at_inj hh; omega)
    refine ⟨ad, cap, w', X K [], hrunA, hin, ?_, g1, fun k q hk => (Tr_kill H K 0 k q).trans (g2 k q hk), hfr, footG _ fun j hj => .inl ⟨K, [], j, hown, by rw [hbK]; rfl, hj, rfl⟩, fun j u hj => by rw [← hn]; exact hnew j u hj, fun k r hg hk j hj => ?_, fun _ => ⟨rfl, rfl, rfl⟩⟩
    · rcases hcap with hc | hc
      · exact .inl hc
      · exact .inr ⟨hc.1, by omega⟩
    · refine hoth _ fun i hi hh => ?_
      have hbk : st.s.blkS k [] = some (r.e, r.cs.map sh) := by simp only [Sto.blkS, Sto.blk, hg, Option.bind_some, Root.blk, walk]; rfl
      have hrk := (H.room k [] _ _ hbk).1
      exact hrowne k [] _ _ hbk (fun h2 => hk h2.1.symm) j (by simp at hrk; omega) _ (by rw [hn]; have := S.ul; omega) hh
  · -- elsewhere
    have hg : cap < n + m := by omega
    obtain ⟨olds, ho1, ho2⟩ := H.reads (k := K) (p := []) (e := inf.size) (cs := cs) (by simp only [Sto.blk, hK, Option.bind_some, Root.blk, walk]) cs 0 (fun i x h => by simpa using h)
    have hol : olds.length = cs.length := by
      have := ho2.length
      have h6 : ∀ (k : Key) (p : List Nat) (l : List Cell) (c : Nat), (lookL k p c l).length = l.length := fun k p l => by
        induction l with
        | nil => intro c; rfl
        | cons y l ih => intro c; simp [ih]
      rw [h6] at this; exact this.symm
    have hfo : ∀ w', (∀ a, w'.cell? a = w.cell? a) → (Builtin.firstCells inf.size n (.slice ad n cap)).run P w' = .ok olds.toArray w' := fun w' hw' => by
      cases ad with
      | none =>
        rcases hcap with hc | hc
        · have : n = 0 := by omega
          have : olds = [] := by have h := hol; rw [← hn, this] at h; simpa using h
          subst this
          rw [run_firstCells_none]
        · cases hc.1
      | some b =>
        rcases hcap with hc | hc
        · have h0 : n = 0 := by omega
          have : olds = [] := by have h := hol; rw [← hn, h0] at h; simpa using h
          subst this
          exact run_firstCells_some w' inf.size n b n cap [] (by simp [h0]) (by simp)
        · have hb1 := hc.1
          simp only [Option.some.injEq] at hb1
          subst hb1
          exact run_firstCells_some w' inf.size n _ n cap olds (by rw [hol, hn]) (fun j v hj => by rw [hw', Ext.at_add]; exact ho1 j v hj)
    have hfit := growslice_fits hg hlim
    have hrunA := run_append_out (P := P) (w := w) t ty el inf z ht hi hz ad n cap y m olds us (S.len w) (hfo w.drew fun _ => rfl) (S.first w.drew fun _ => rfl) hg (by omega) hfit
    have hge := grownCap_ge w (n + m) cap el
    have hrowl : (olds.toArray ++ us.toArray ++ Builtin.zeroCells z.cells (grownCap w (n + m) cap el - (n + m))).size = grownCap w (n + m) cap el * inf.size := by
      rw [Array.size_append, Array.size_append, zeroCells_size]
      simp only [List.size_toArray, hol, S.ul, ← hn]
      simp only [Array.length_toList] at hzl
      rw [hzl, Nat.sub_mul, Nat.add_mul]
      have : (n + m) * inf.size ≤ grownCap w (n + m) cap el * inf.size := Nat.mul_le_mul_right _ hge
      rw [Nat.add_mul] at this
      omega
    have hcell : ∀ j, (w.drew.alloc (.cells (olds.toArray ++ us.toArray ++ Builtin.zeroCells z.cells (grownCap w (n + m) cap el - (n + m))) el)).cell? ((Ext.mk w.heap.size 0 (grownCap w (n + m) cap el * inf.size)).at j) =
        (olds.toArray ++ us.toArray ++ Builtin.zeroCells z.cells (grownCap w (n + m) cap el - (n + m)))[j]? := fun j => by
      have : (Ext.mk w.heap.size 0 (grownCap w (n + m) cap el * inf.size)).at j = ⟨w.drew.heap.size, j, none⟩ := by simp [Ext.at]
      rw [this, World.cell?_alloc_new]
    have hold := alloc_hold w.drew (.cells (olds.toArray ++ us.toArray ++ Builtin.zeroCells z.cells (grownCap w (n + m) cap el - (n + m))) el)
    have hlt : ∀ k q e' cs', st.s.blkS k q = some (e', cs') → ∀ j, j < (X k q).cap → ((X k q).at j).block < w.heap.size := fun k q e' cs' h j hj => cell_block ((H.room k q e' cs' h).2 j hj).1
    obtain ⟨g1, g2⟩ := H1.grow hK1 hN (w' := w.drew.alloc (.cells (olds.toArray ++ us.toArray ++ Builtin.zeroCells z.cells (grownCap w (n + m) cap el - (n + m))) el)) (x := ⟨w.heap.size, 0, grownCap w (n + m) cap el * inf.size⟩) (m := ys.length)
      (by rw [← hsum]; exact Nat.mul_le_mul_right _ hge)
      (fun j hj => by
        refine ⟨by rw [hcell, Array.getElem?_eq_getElem (by rw [hrowl]; exact hj)]; rfl, ?_⟩
        have : (Ext.mk w.heap.size 0 (grownCap w (n + m) cap el * inf.size)).at j = ⟨w.drew.heap.size, j, none⟩ := by simp [Ext.at]
        rw [this]; exact World.frozen?_alloc_new _ _ _ _)
      (fun k q e' cs' h hh j hj => by
        obtain ⟨cs0, h5⟩ := hbS k q e' cs' h
        have := hlt k q e' cs0 h5 j hj
        obtain ⟨h8, h9⟩ := hold ((X k q).at j) this
        refine ⟨h8.trans (World.cell?_drew ..), h9.trans (World.frozen?_drew ..), fun i hi he => ?_⟩
        rw [he] at this; simp [Ext.at] at this)
      (fun i hi => by
        rw [hcell, Array.getElem?_append_left (by simp [hol] <;> omega), Array.getElem?_append_left (by simp [hol] <;> omega)]
        simp only [List.getElem?_toArray]
        have hi' : i < olds.length := by omega
        rw [List.getElem?_eq_getElem hi']
        have := ho1 i _ (List.getElem?_eq_getElem hi')
        simp only [Nat.zero_add] at this
        exact this.symm)
    refine ⟨_, _, _, ⟨w.heap.size, 0, grownCap w (n + m) cap el * inf.size⟩, hrunA, hge, .inr ⟨by simp [Ext.at], Nat.le_refl _⟩, g1, fun k q hk => (Tr_kill H K 0 k q).trans (g2 k q hk), (Fr.drew X st.s w).trans (Foot.refl _ _ _) (Fr.alloc _ _ _ _), footG _ fun j hj => .inr (Nat.le_refl _), fun j u hj => ?_, fun k r hgk hk j hj => ?_, fun h => absurd h hin⟩
    · have hjl := getElem?_len hj
      rw [hcell, Array.getElem?_append_left (by simp [hol] <;> omega), Array.getElem?_append_right (by simp [hol])]
      simp [hol, hj]
    · have hbk : st.s.blkS k [] = some (r.e, r.cs.map sh) := by simp only [Sto.blkS, Sto.blk, hgk, Option.bind_some, Root.blk, walk]; rfl
      have hrk := (H.room k [] _ _ hbk).1
      exact (hold _ (hlt k [] _ _ hbk j (by simp at hrk; omega))).1
end
end Go.AK


/- append, as an operation of the walk: the whole. Conditions: none. -/
set_option linter.unusedSimpArgs false
set_option linter.unusedVariables false
namespace Go.AK
open Go

section
variable {P : Program} {B : Base} {N : Nat} {X : EM} {st : St} {a : Act} {w : World}

theorem grow_same (I : InvX B N X st a w) {d : Tmp} (hd : d < N) {t el : TypeId} {inf : TypeInfo} {z : Value} (ht : P.underlying t = some (.slice el)) (hi : P.info? el = some inf) (hz : inf.zero = some z) (hzl : z.cells.toList.length = inf.size) (ty : TypeId)
    {K : Key} {cs : List Cell} (hK : st.s.get K = some ⟨.lst, inf.size, cs⟩) {ad : Option Addr} {n cap : Nat} (hv : VC1 X st.s (.ref K [] 0 n) (.slice ad n cap)) (hn : n * inf.size = cs.length)
    {y : Value} {m : Nat} {ys : List Cell} {ks : Option Key} {us : List Value} (S : Src P X st.s w inf.size y m ys ks us) (hks : ks ≠ some K) (hlim : (n + m) * inf.bytes ≤ 140737488355328) (hlim2 : n + m ≤ 9223372036854775807)
    {mb : List Nat} (hmb : ∀ j, j ∈ st.mb ∨ j ∈ K.argL → j ∈ mb) :
    ∃ v w' X', (Builtin.append_ #[t, t] ty #[.slice ad n cap, y]).run P w = .ok v w' ∧ InvX B N X' (growTo st d K inf.size cs ys (n + m) ks mb) (a.put (some d) v) w' ∧ (ks = none → n + m ≤ cap → v = .slice ad (n + m) cap ∧ X' = X) := by
  obtain ⟨ad', cap', w', x, hrun, hge, hcap', H2, tr2, hfr, hft, hmem, hoth, hsame⟩ := app_run I ht hi hz hzl ty hK hv hn S hks hlim hlim2
  have hclK : ∀ y ∈ cs, cln y = true := I.rel.clean K _ hK (by simp)
  have hsum : (n + m) * inf.size = cs.length + ys.length := by rw [Nat.add_mul, hn, S.yl]
  have key : ∀ j, Key.arg j ≠ K → j ∉ mb ∨ True := fun j _ => .inr trivial
  rcases S.how with ⟨rfl, rfl⟩ | ⟨k, rfl, hka, hkg, hkm⟩
  · -- scalars
    have hul : (us.map Cell.sc).length = us.length := by simp
    rw [hul] at H2 tr2 hft
    obtain ⟨H3, tr3⟩ := H2.tell (K := K) (e := inf.size) (cs := cs) (us := us) (by rw [Sto.get_set, if_pos rfl]) S.one (fun j u hj => by rw [lay_K]; exact hmem j u hj)
    have hcg : ∀ k', ((st.s.kill K 0).set K ⟨.lst, inf.size, cs ++ us.map Cell.sc⟩).get k' = (((st.s.kill K 0).set K ⟨.lst, inf.size, cs ++ List.replicate us.length .dead⟩).set K ⟨.lst, inf.size, cs ++ us.map Cell.sc⟩).get k' := fun k' => by
      simp only [Sto.get_set]; by_cases h : K = k' <;> simp [h]
    have H4 := H3.congr hcg
    have tr4 : ∀ k' q, K ≠ k' → Tr X st.s k' q (X.lay K x) ((st.s.kill K 0).set K ⟨.lst, inf.size, cs ++ us.map Cell.sc⟩) k' q := fun k' q h => ((tr2 k' q h).trans (tr3 k' q)).trans (Tr_congr hcg k' q)
    have S4 : Stp X st.s w (X.lay K x) ((st.s.kill K 0).set K ⟨.lst, inf.size, cs ++ us.map Cell.sc⟩) w' (killC K 0) [] K.argL := {
      rel := H4
      vc := fun c v hv => VC_kill (fun k' p h => tr4 k' p fun hh => h ⟨hh.symm, Nat.zero_le _⟩) hv
      fr := hfr
      foot := by
        rintro b ⟨k', q, j, ho, hb, hj, rfl⟩
        obtain ⟨b', hb⟩ := Option.isSome_iff_exists.1 hb
        refine hft _ ⟨k', q, j, ?_, ?_, hj, rfl⟩
        · obtain ⟨r, h1, h2⟩ := ho
          rw [Sto.get_set] at h1
          by_cases h : K = k'
          · subst h; exact ⟨_, by rw [Sto.get_set, if_pos rfl], by simp⟩
          · rw [if_neg h] at h1; exact ⟨r, by rw [Sto.get_set, if_neg h]; exact h1, h2⟩
        · rw [blkS_congr hcg] at hb
          -- the place was there before it was told
          by_cases h : K = k'
          · subst h
            rw [blkS_new, if_pos rfl] at hb ⊢
            cases q with
            | nil => rfl
            | cons i q =>
              have : walkS (inf.size, cs ++ List.replicate us.length Cell.dead) (i :: q) = walkS (inf.size, cs ++ us.map Cell.sc) (i :: q) := by
                have nosub : ∀ (l : List Cell), leaves l → ∀ (i : Nat), sub l[i]? = none := fun l hl i => by
                  cases hx : l[i]? with
                  | none => rfl
                  | some y => exact hl y (List.mem_iff_getElem?.2 ⟨i, hx⟩)
                show (walk _ _).map _ = (walk _ _).map _
                simp only [walk]
                rcases Nat.lt_or_ge i cs.length with h | h
                · rw [List.getElem?_append_left h, List.getElem?_append_left h]
                · rw [List.getElem?_append_right h, List.getElem?_append_right h, nosub _ (leaves_dead _), nosub _ (fun x hx => by obtain ⟨u, _, rfl⟩ := List.mem_map.1 hx; rfl)]
              simp only at hb
              rw [this, hb]; rfl
          · rw [blkS_new, if_neg h, blkS_new, if_neg h] at hb
            rw [blkS_new, if_neg h, hb]; rfl
      k1 := fun j _ h q => tr4 _ q fun hh => h (by rw [hh]; simp [Key.argL])
      k2 := fun j h => tr4 _ [] fun hh => h (by rw [hh]; simp [Key.argL]) }
    have I2 := I.step S4 rfl (ma' := st.ma) (mb' := mb) (fun j h => by simpa using h) hmb
    refine ⟨_, w', X.lay K x, hrun, ?_, fun _ hh => ?_⟩
    rotate_left
    · obtain ⟨rfl, rfl, rfl⟩ := hsame hh
      refine ⟨rfl, ?_⟩
      funext k q
      unfold EM.lay
      by_cases h : k = K ∧ q = []
      · rw [if_pos h, h.1, h.2]
      · rw [if_neg h]
    have := I2.put hd (av := .c (.ref K [] 0 (n + m))) (v := .slice ad' (n + m) cap') ⟨inf.size, (cs ++ us.map Cell.sc).map sh, cap', ad', by
      simp only [Sto.blkS, Sto.blk, Sto.get_set, if_true, Option.bind_some, Root.blk, walk, Option.map_some, shB], by simp only [List.length_map, List.length_append] at hsum ⊢; omega, hge, rfl, by rw [lay_K]; rcases hcap' with h | h; exact .inl h; exact .inr ⟨h.1, by omega⟩⟩
    exact this
  · -- what another root held
    have hKk : K ≠ k := fun h => hks (by rw [h])
    have hk2 : ((st.s.kill K 0).set K ⟨.lst, inf.size, cs ++ List.replicate ys.length .dead⟩).get k = some ⟨.lst, inf.size, ys⟩ := by rw [Sto.get_set, if_neg hKk, Sto.get_kill, hkg]; rfl
    have H3 := H2.kill k 0
    have hn3 := H2.noN_kill k 0
    have hKg : (((st.s.kill K 0).set K ⟨.lst, inf.size, cs ++ List.replicate ys.length .dead⟩).kill k 0).get K = some ⟨.lst, inf.size, cs ++ List.replicate ys.length .dead⟩ := by rw [Sto.get_kill, Sto.get_set, if_pos rfl]; rfl
    have hkg3 : (((st.s.kill K 0).set K ⟨.lst, inf.size, cs ++ List.replicate ys.length .dead⟩).kill k 0).get k = some ⟨.lst, inf.size, ys⟩ := by rw [Sto.get_kill, hk2]; rfl
    obtain ⟨H4, tr4⟩ := Stp.join H3 hKg hkg3 hKk hka hn3 (fun j hj => by
      have hjy : j < us.length := by have h1 := S.ul; have h2 := S.yl; omega
      have hu := List.getElem?_eq_getElem hjy
      rw [lay_K, hmem j _ hu]
      have hXk : (X.lay K x) k [] = X k [] := by unfold EM.lay; rw [if_neg (fun h => hKk h.1.symm)]
      rw [hXk, hoth k _ hkg hKk j hj, hkm j _ hu])
    have hcg : ∀ k', ((((st.s.kill K 0).kill k 0).del k).set K ⟨.lst, inf.size, cs ++ ys⟩).get k' =
        (((((st.s.kill K 0).set K ⟨.lst, inf.size, cs ++ List.replicate ys.length .dead⟩).kill k 0).del k).set K ⟨.lst, inf.size, cs ++ ys⟩).get k' := fun k' => by
      simp only [Sto.get_set, Sto.get_del, Sto.get_kill]
      by_cases h : K = k'
      · simp [h]
      · simp only [if_neg h]
    have H5 := H4.congr hcg
    have tr5 : ∀ k' q, K ≠ k' → k ≠ k' → Tr X st.s k' q ((X.lay K x).join K k cs.length) ((((st.s.kill K 0).kill k 0).del k).set K ⟨.lst, inf.size, cs ++ ys⟩) k' q := fun k' q h h' =>
      (((tr2 k' q h).trans (Tr_kill H2 k 0 k' q)).trans (tr4 k' q h')).trans (Tr_congr hcg k' q)
    have S5 : Stp X st.s w ((X.lay K x).join K k cs.length) ((((st.s.kill K 0).kill k 0).del k).set K ⟨.lst, inf.size, cs ++ ys⟩) w' (killC k 0 ∘ killC K 0) [] K.argL := {
      rel := H5
      vc := fun c v hv => by
        have h1 : VC (X.lay K x) ((st.s.kill K 0).set K ⟨.lst, inf.size, cs ++ List.replicate ys.length .dead⟩) (killC K 0 c) v := VC_kill (fun k' p h => tr2 k' p fun hh => h ⟨hh.symm, Nat.zero_le _⟩) hv
        exact VC_kill (fun k' p h => ((Tr_kill H2 k 0 k' p).trans (tr4 k' p fun hh => h ⟨hh.symm, Nat.zero_le _⟩)).trans (Tr_congr hcg k' p)) h1
      fr := hfr
      foot := by
        rintro b ⟨k', q, j, ho, hb, hj, rfl⟩
        obtain ⟨b', hb⟩ := Option.isSome_iff_exists.1 hb
        rw [blkS_congr hcg, blkS_new] at hb
        have ownK : ((st.s.kill K 0).set K ⟨.lst, inf.size, cs ++ List.replicate ys.length .dead⟩).owned K := ⟨_, by rw [Sto.get_set, if_pos rfl], by simp⟩
        have ownk : ((st.s.kill K 0).set K ⟨.lst, inf.size, cs ++ List.replicate ys.length .dead⟩).owned k := ⟨_, hk2, by simp⟩
        by_cases h : K = k'
        · subst h
          rw [if_pos rfl] at hb
          cases q with
          | nil =>
            have : ((X.lay K x).join K k cs.length) K [] = (X.lay K x) K [] := by unfold EM.join; simp
            rw [this] at hj ⊢
            exact hft _ ⟨K, [], j, ownK, by rw [blkS_new, if_pos rfl]; rfl, hj, rfl⟩
          | cons i q =>
            rcases Nat.lt_or_ge i cs.length with hi' | hi'
            · have : ((X.lay K x).join K k cs.length) K (i :: q) = (X.lay K x) K (i :: q) := by unfold EM.join; simp [Nat.not_le.2 hi']
              rw [this] at hj ⊢
              refine hft _ ⟨K, i :: q, j, ownK, ?_, hj, rfl⟩
              rw [blkS_new, if_pos rfl]
              have h2 : walkS (inf.size, cs ++ List.replicate ys.length Cell.dead) (i :: q) = walkS (inf.size, cs ++ ys) (i :: q) := by
                show (walk _ _).map _ = (walk _ _).map _
                simp only [walk]
                rw [List.getElem?_append_left hi', List.getElem?_append_left hi']
              simp only at hb ⊢
              rw [h2, hb]; rfl
            · have : ((X.lay K x).join K k cs.length) K (i :: q) = (X.lay K x) k ((i - cs.length) :: q) := by unfold EM.join; simp [hi']
              rw [this] at hj ⊢
              refine hft _ ⟨k, (i - cs.length) :: q, j, ownk, ?_, hj, rfl⟩
              have h2 : walkS (inf.size, cs ++ ys) (i :: q) = walkS (inf.size, ys) ((i - cs.length) :: q) := by
                show (walk _ _).map _ = (walk _ _).map _
                simp only [walk]
                rw [List.getElem?_append_right hi']
              have h3 : ((st.s.kill K 0).set K ⟨.lst, inf.size, cs ++ List.replicate ys.length .dead⟩).blkS k ((i - cs.length) :: q) = walkS (inf.size, ys) ((i - cs.length) :: q) := by
                simp only [Sto.blkS, Sto.blk, hk2, Option.bind_some, Root.blk]; rfl
              simp only at hb
              rw [h3, ← h2, hb]; rfl
        · rw [if_neg h, Sto.blkS_del] at hb
          by_cases hk' : k = k'
          · rw [if_pos hk'] at hb; cases hb
          · rw [if_neg hk', H2.blkS_kill] at hb
            obtain ⟨b0, hb0, _⟩ := Option.map_eq_some_iff.1 hb
            have : ((X.lay K x).join K k cs.length) k' q = (X.lay K x) k' q := by unfold EM.join; rw [if_neg (fun e => h e.symm)]
            rw [this] at hj ⊢
            refine hft _ ⟨k', q, j, ?_, by rw [hb0]; rfl, hj, rfl⟩
            obtain ⟨r, h1, h2⟩ := ho
            rw [Sto.get_set, if_neg h, Sto.get_del, if_neg hk', Sto.get_kill] at h1
            obtain ⟨r1, h3, rfl⟩ := Option.map_eq_some_iff.1 h1
            exact ⟨r1, by rw [Sto.get_set, if_neg h]; exact h3, by rwa [killR_kd] at h2⟩
      k1 := fun j _ h q => tr5 _ q (fun hh => h (by rw [hh]; simp [Key.argL])) (fun hh => hka j hh)
      k2 := fun j h => tr5 _ [] (fun hh => h (by rw [hh]; simp [Key.argL])) (fun hh => hka j hh) }
    have I2 := I.step S5 rfl (ma' := st.ma) (mb' := mb) (fun j h => by simpa using h) hmb
    rw [← mapT_mapT] at I2
    refine ⟨_, w', (X.lay K x).join K k cs.length, hrun, ?_, fun h => by cases h⟩
    have := I2.put hd (av := .c (.ref K [] 0 (n + m))) (v := .slice ad' (n + m) cap') ⟨inf.size, (cs ++ ys).map sh, cap', ad', by
      simp only [Sto.blkS, Sto.blk, Sto.get_set, if_true, Option.bind_some, Root.blk, walk, Option.map_some, shB], by simp only [List.length_map, List.length_append] at hsum ⊢; omega, hge, rfl, by
        have : ((X.lay K x).join K k cs.length) K [] = x := by unfold EM.join; simp [lay_K]
        rw [this]; rcases hcap' with h | h; exact .inl h; exact .inr ⟨h.1, by omega⟩⟩
    exact this
theorem grow_sound (I : InvX B N X st a w) {d : Tmp} (hd : d < N) {t el : TypeId} {inf : TypeInfo} {z : Value} (ht : P.underlying t = some (.slice el)) (hi : P.info? el = some inf) (hz : inf.zero = some z) (hzl : z.cells.toList.length = inf.size) (ty : TypeId)
    {K : Key} {cs : List Cell} (hK : st.s.get K = some ⟨.lst, inf.size, cs⟩) {ad : Option Addr} {n cap : Nat} (hv : VC1 X st.s (.ref K [] 0 n) (.slice ad n cap)) (hn : n * inf.size = cs.length)
    {y : Value} {m : Nat} {ys : List Cell} {ks : Option Key} {us : List Value} (S : Src P X st.s w inf.size y m ys ks us) (hks : ks ≠ some K) (hlim : (n + m) * inf.bytes ≤ 140737488355328) (hlim2 : n + m ≤ 9223372036854775807)
    {mb : List Nat} (hmb : ∀ j, j ∈ st.mb ∨ j ∈ K.argL → j ∈ mb) :
    ∃ v w' X', (Builtin.append_ #[t, t] ty #[.slice ad n cap, y]).run P w = .ok v w' ∧ InvX B N X' (growTo st d K inf.size cs ys (n + m) ks mb) (a.put (some d) v) w' := by
  obtain ⟨v, w', X', h1, h2, _⟩ := grow_same I hd ht hi hz hzl ty hK hv hn S hks hlim hlim2 hmb
  exact ⟨v, w', X', h1, h2⟩
end
end Go.AK


/- append at every kind of slice. Conditions: none. -/
set_option linter.unusedSimpArgs false
set_option linter.unusedVariables false
namespace Go.AK
open Go

def nd : Cell → Bool
  | .dead => false
  | _ => true
def srcOf (s : Sto) (e : Nat) (cons : Bool) : AV → Option (Nat × List Cell × Option Key)
  | .c (.sc (.slice none n _)) => if n = 0 then some (0, [], none) else none
  | .c (.ref k p off m) => match s.blk k p with
    | some (e', cs) => if e' = e then (if cons = true then (match k, s.get k with
        | .tmp x y, some r => if p = [] ∧ off = 0 ∧ r.kd = .lst ∧ m * e = cs.length ∧ cs.all nd = true then some (m, cs, some (.tmp x y)) else none
        | _, _ => none)
      else if ((cs.drop off).take (m * e)).all isSc = true then some (m, (cs.drop off).take (m * e), none) else none) else none
    | none => none
  | _ => none

def appLim (n m bytes : Nat) : Prop := (n + m) * bytes ≤ 140737488355328 ∧ n + m ≤ 9223372036854775807
instance (n m bytes : Nat) : Decidable (appLim n m bytes) := inferInstanceAs (Decidable (_ ∧ _))

def aapp (st : St) (d : Tmp) (e bytes : Nat) (cons : Bool) (x y : AV) : Option St :=
  match srcOf st.s e cons y with
  | none => none
  | some (m, ys, ks) => match x with
    | .c (.sc (.slice none n c)) => if n = 0 ∧ c = 0 then
        (if ks ≠ some (.tmp d 0) ∧ appLim 0 m bytes then
          some (growTo ⟨(st.free (.tmp d 0)).t, (st.free (.tmp d 0)).s.set (.tmp d 0) ⟨.lst, e, []⟩, st.ma, st.mb⟩ d (.tmp d 0) e [] ys (0 + m) ks st.mb)
        else none) else none
    | .c (.ref k [] off n) => match st.s.get k with
      | some ⟨.lst, e', cs⟩ => if e' = e ∧ off = 0 ∧ n * e = cs.length ∧ ks ≠ some k ∧ appLim n m bytes then some (growTo st d k e cs ys (n + m) ks (addL st.mb k)) else none
      | _ => none
    | .c (.ref k (i0 :: p0) off n) => match st.s.blk k (i0 :: p0) with
      | some (e', cs) => if e' = e ∧ off = 0 ∧ n * e = cs.length ∧ ks ≠ some k ∧ ks ≠ some (.tmp d 0) ∧ k ≠ .tmp d 0 ∧ isOwned st.s k = true ∧ appLim n m bytes then
          some (growTo ⟨(st.free (.tmp d 0)).t.mapT (killC k (i0 :: p0).length),
            (((st.free (.tmp d 0)).s.kill k (i0 :: p0).length).put k (i0 :: p0).dropLast ((i0 :: p0).getLast (by simp)) .dead).set (.tmp d 0) ⟨.lst, e, cs⟩, addL st.ma k, st.mb⟩ d (.tmp d 0) e cs ys (n + m) ks st.mb) else none
      | none => none
    | _ => none

section
variable {P : Program} {B : Base} {N : Nat} {X : EM} {st : St} {a : Act} {w : World}

theorem all_isSc {ys : List Cell} (h : ys.all isSc = true) : ∃ us : List Value, ys = us.map .sc := by
  induction ys with
  | nil => exact ⟨[], rfl⟩
  | cons y ys ih =>
    simp only [List.all_cons, Bool.and_eq_true] at h
    obtain ⟨us, rfl⟩ := ih h.2
    cases y with
    | sc u => exact ⟨u :: us, rfl⟩
    | _ => simp [isSc] at h

theorem src_sound (I : InvX B N X st a w) {e : Nat} {cons : Bool} {y : Operand} {m : Nat} {ys : List Cell} {ks : Option Key} (h : srcOf st.s e cons (evo st.t y) = some (m, ys, ks)) : ∃ us, Src P X st.s w e (a.eval y) m ys ks us := by
  have hy := I.ev y
  unfold srcOf at h
  split at h
  · rename_i n c hx
    rw [hx] at hy
    by_cases hn : n = 0
    · rw [if_pos hn] at h
      cases h
      subst hn
      rw [hy.1]
      exact ⟨[], fun w' => rfl, fun w' _ => by rw [run_firstCells_none], by simp, by simp, by simp, .inl ⟨rfl, rfl⟩⟩
    · rw [if_neg hn] at h; cases h
  · rename_i k p off m' hx
    rw [hx] at hy
    obtain ⟨e0, cs0, cap, ad, h1, h2, h3, h4, h5⟩ := hy
    split at h
    · rename_i e' cs hb
      obtain ⟨rfl, hlen⟩ := blk_of_blkS h1 hb
      by_cases he : e' = e
      · rw [if_pos he] at h
        subst he
        have first : ∀ us : List Value, us.length = m' * e' → (∀ j u, us[j]? = some u → w.cell? ((X k p).at (off + j)) = some u) → ∀ w', (∀ a, w'.cell? a = w.cell? a) → (Builtin.firstCells e' m' (.slice ad m' cap)).run P w' = .ok us.toArray w' := by
          intro us hul hm w' hw'
          rcases h5 with h5 | h5
          · have h0 : m' = 0 := by omega
            have : us = [] := by rw [h0] at hul; simpa using hul
            subst this
            cases ad with
            | none => rw [run_firstCells_none]
            | some b => exact run_firstCells_some w' e' m' b m' cap [] (by simp [h0]) (by simp)
          · rw [h5.1]
            exact run_firstCells_some w' e' m' _ m' cap us hul (fun j u hj => by rw [hw', Ext.at_add]; exact hm j u hj)
        by_cases hc : cons = true
        · rw [if_pos hc] at h
          split at h
          · rename_i x0 y0 r hg
            split at h
            · rename_i hcd
              obtain ⟨rfl, rfl, hkd, hml, hnd⟩ := hcd
              cases h
              have hbr : st.s.blk (.tmp x0 y0) [] = some (r.e, r.cs) := by simp only [Sto.blk, hg, Option.bind_some, Root.blk, walk]
              rw [hb] at hbr
              simp only [Option.some.injEq, Prod.mk.injEq] at hbr
              obtain ⟨rfl, rfl⟩ := hbr
              obtain ⟨vs, hv1, hv2⟩ := I.rel.reads hb r.cs 0 (fun i x h => by simpa using h)
              have hvl : vs.length = r.cs.length := by
                have := hv2.length
                have h6 : ∀ (k : Key) (p : List Nat) (l : List Cell) (c : Nat), (lookL k p c l).length = l.length := fun k p l => by
                  induction l with
                  | nil => intro c; rfl
                  | cons y l ih => intro c; simp [ih]
                rw [h6] at this; exact this.symm
              have hone : ∀ u ∈ vs, u.oneCell' = true := by
                have key : ∀ (k : Key) (l : List Cell) (c : Nat) (us : List Value), (∀ x ∈ l, nd x = true) → all2 (VC X st.s) (lookL k [] c l) us → ∀ u ∈ us, u.oneCell' = true := by
                  intro k l
                  induction l with
                  | nil => intro c us _ h u hu; cases us with
                    | nil => cases hu
                    | cons => exact h.elim
                  | cons y l ih =>
                    intro c us hl h u hu
                    cases us with
                    | nil => cases hu
                    | cons v us =>
                      rcases List.mem_cons.1 hu with rfl | hu
                      · refine VC_one h.1 fun hd => ?_
                        have hy := hl y (by simp)
                        cases y <;> simp [look, nd] at hd hy
                      · exact ih (c + 1) us (fun x hx => hl x (by simp [hx])) h.2 u hu
                exact key _ r.cs 0 vs (fun x hx => List.all_eq_true.1 hnd x hx) hv2
              refine ⟨vs, fun w' => by rw [h4]; rfl, by rw [h4]; exact first vs (by omega) hv1, by omega, hml.symm, hone, .inr ⟨.tmp x0 y0, rfl, by simp, ?_, fun j u hj => by simpa using hv1 j u hj⟩⟩
              rw [hg]; cases r; simp_all
            · cases h
          · cases h
        · rw [if_neg hc] at h
          split at h
          · rename_i hall
            cases h
            obtain ⟨us, hus⟩ := all_isSc hall
            have hul : us.length = m * e' := by
              have := congrArg List.length hus
              simp only [List.length_map, List.length_take, List.length_drop] at this
              omega
            have hget : ∀ j u, us[j]? = some u → cs[off + j]? = some (.sc u) := fun j u hj => by
              have h7 : ((cs.drop off).take (m * e'))[j]? = some (.sc u) := by rw [hus, List.getElem?_map, hj]; rfl
              rw [List.getElem?_take] at h7
              split at h7
              · rwa [List.getElem?_drop] at h7
              · cases h7
            have hmem : ∀ j u, us[j]? = some u → w.cell? ((X k p).at (off + j)) = some u ∧ u.oneCell' = true := fun j u hj => by
              obtain ⟨v, hv1, hv2⟩ := I.rel.read hb (hget j u hj)
              obtain ⟨rfl, h9⟩ := hv2
              exact ⟨hv1, h9⟩
            refine ⟨us, fun w' => by rw [h4]; rfl, by rw [h4]; exact first us hul fun j u hj => (hmem j u hj).1, hul, by rw [hus]; simp [hul], fun u hu => ?_, .inl ⟨rfl, hus⟩⟩
            obtain ⟨j, hj⟩ := List.mem_iff_getElem?.1 hu
            exact (hmem j u hj).2
          · cases h
      · rw [if_neg he] at h; cases h
    · cases h
  · cases h
end
end Go.AK


/- append does what is said. Conditions: none. -/
set_option linter.unusedSimpArgs false
set_option linter.unusedVariables false
namespace Go.AK
open Go

section
variable {P : Program} {B : Base} {N : Nat} {X : EM} {st : St} {a : Act} {w : World}

theorem Src.same {s s' : Sto} {X' : EM} {e : Nat} {y : Value} {m : Nat} {ys : List Cell} {ks : Option Key} {us : List Value} (S : Src P X s w e y m ys ks us) (h : ∀ k, ks = some k → s.get k = some ⟨.lst, e, ys⟩ → s'.get k = some ⟨.lst, e, ys⟩ ∧ X' k [] = X k []) :
    Src P X' s' w e y m ys ks us := by
  refine ⟨S.len, S.first, S.ul, S.yl, S.one, ?_⟩
  rcases S.how with h1 | ⟨k, h1, h2, h3, h4⟩
  · exact .inl h1
  · obtain ⟨h5, h6⟩ := h k h1 h3
    exact .inr ⟨k, h1, h2, h5, by rw [h6]; exact h4⟩

theorem kill_lst {s : Sto} {k : Key} {e : Nat} {ys : List Cell} (h : s.get k = some ⟨.lst, e, ys⟩) (k' : Key) (d : Nat) : (s.kill k' d).get k = some ⟨.lst, e, ys⟩ := by rw [Sto.get_kill, h]; rfl
theorem free_get {st : St} {K k : Key} (hne : k ≠ K) {e : Nat} {ys : List Cell} (h : st.s.get k = some ⟨.lst, e, ys⟩) : (st.free K).s.get k = some ⟨.lst, e, ys⟩ := by
  unfold St.free
  cases hg : st.s.get K with
  | none => exact h
  | some r => simp only [Sto.get_del]; rw [if_neg (fun h => hne h.symm)]; exact kill_lst h K 0
theorem free_mab (st : St) (K : Key) : (st.free K).ma = st.ma ∧ (st.free K).mb = st.mb := by
  unfold St.free; cases st.s.get K <;> exact ⟨rfl, rfl⟩

theorem aapp_sound (I : InvX B N X st a w) {d : Tmp} (hd : d < N) {t el : TypeId} {inf : TypeInfo} {z : Value} (ht : P.underlying t = some (.slice el)) (hi : P.info? el = some inf) (hz : inf.zero = some z) (hzl : z.cells.toList.length = inf.size) (ty : TypeId)
    {cons : Bool} {x y : Operand} {st' : St} (h : aapp st d inf.size inf.bytes cons (evo st.t x) (evo st.t y) = some st') :
    ∃ v w' X', (Builtin.append_ #[t, t] ty #[a.eval x, a.eval y]).run P w = .ok v w' ∧ InvX B N X' st' (a.put (some d) v) w' := by
  unfold aapp at h
  split at h
  · cases h
  · rename_i m ys ks hsrc
    obtain ⟨us, S⟩ := src_sound (P := P) I hsrc
    have hxv := I.ev x
    split at h
    · -- nil
      rename_i n c hx
      rw [hx] at hxv
      split at h
      · rename_i hnc
        obtain ⟨rfl, rfl⟩ := hnc
        rw [hxv.1]
        · split at h
          · rename_i hc
            obtain ⟨hks, hl1, hl2⟩ := hc
            cases h
            obtain ⟨I0, hK, _⟩ := free_step I (.tmp d 0) (by simp)
            have S1 := Stp.new (w' := w) I0.rel hK (r := ⟨.lst, inf.size, []⟩) (x := ⟨w.heap.size, 0, 0⟩) (fun x hx => by cases hx) (by simp) (fun _ y hy => by cases hy) (Fr.refl _ _ _) (fun a _ => ⟨rfl, rfl⟩) (Nat.le_refl _) (Nat.zero_le _) (fun j hj => absurd hj (Nat.not_lt_zero j)) (fun i y hy => by simp at hy)
            have I1 := I0.step S1 rfl (ma' := st.ma) (mb' := st.mb) (fun j h => by rw [(free_mab st _).1] at h; simpa using h) (fun j h => by rw [(free_mab st _).2] at h; simpa using h)
            rw [mapT_id] at I1
            have Sx := S.same (X' := X.lay (.tmp d 0) ⟨w.heap.size, 0, 0⟩) (s' := (st.free (.tmp d 0)).s.set (.tmp d 0) ⟨.lst, inf.size, []⟩) (fun k hk hg => by
              have hne : k ≠ .tmp d 0 := fun hh => hks (by rw [hk, hh])
              refine ⟨by rw [Sto.get_set, if_neg (fun h => hne h.symm)]; exact free_get hne hg, ?_⟩
              unfold EM.lay; rw [if_neg (fun h => hne h.1)])
            exact grow_sound I1 hd ht hi hz hzl ty (K := .tmp d 0) (cs := []) (by rw [Sto.get_set, if_pos rfl]) (ad := none) (n := 0) (cap := 0) ⟨inf.size, [], 0, none, by simp only [Sto.blkS, Sto.blk, Sto.get_set, if_true, Option.bind_some, Root.blk, walk]; rfl, by simp, Nat.le_refl _, rfl, .inl rfl⟩ (by simp) Sx hks hl1 hl2 (mb := st.mb) (fun j h => by simpa [Key.argL] using h)
          · cases h
      · cases h
    · -- a root
      rename_i k off n hx
      rw [hx] at hxv
      split at h
      · rename_i e' cs hg
        split at h
        · rename_i hc
          obtain ⟨rfl, rfl, hn, hks, hl1, hl2⟩ := hc
          cases h
          obtain ⟨e0, cs0, cap, ad, h1, h2, h3, h4, h5⟩ := hxv
          rw [h4]
          refine grow_sound I hd ht hi hz hzl ty hg (ad := ad) (n := n) (cap := cap) ⟨e0, cs0, cap, ad, h1, h2, h3, rfl, h5⟩ hn S hks hl1 hl2 (fun j h => mem_addL h)
        · cases h
      · cases h
    · -- what a cell owns
      rename_i k i0 p0 off n hx
      rw [hx] at hxv
      split at h
      · rename_i e' cs hb
        split at h
        · rename_i hc
          obtain ⟨rfl, rfl, hn, hks, hksd, hkd, hown, hl1, hl2⟩ := hc
          cases h
          obtain ⟨I0, hK, f0, _, hvc0, _⟩ := free_step I (.tmp d 0) (by simp)
          have hmab := free_mab st (.tmp d 0)
          have hkeq : k ≠ .tmp d 0 := hkd
          -- the place, behind the freeing
          have tr0 : Tr X st.s k (i0 :: p0) X (st.free (.tmp d 0)).s k (i0 :: p0) := by
            unfold St.free
            cases hg : st.s.get (.tmp d 0) with
            | none => exact Tr.refl _ _ _ _
            | some r => exact (Tr_kill I.rel (.tmp d 0) 0 k (i0 :: p0)).trans (Tr.eq (by rw [Sto.blkS_del, if_neg (fun h => hkeq h.symm)]))
          have own0 : (st.free (.tmp d 0)).s.owned k := by
            have ho := isOwned_spec hown
            unfold St.free
            cases hg : st.s.get (.tmp d 0) with
            | none => exact ho
            | some r => exact Sto.owned_del.2 ⟨fun h => hkeq h.symm, Sto.owned_kill.2 ho⟩
          have blk0 : ∀ q, q ≠ [] → (st.free (.tmp d 0)).s.blk k q = st.s.blk k q := fun q hq => by
            have kk : (st.s.kill (.tmp d 0) 0).blk k q = st.s.blk k q := by
              simp only [Sto.blk, Sto.get_kill]
              cases hg : st.s.get k with
              | none => rfl
              | some r =>
                cases q with
                | nil => exact absurd rfl hq
                | cons i q =>
                  simp only [Option.map_some, Option.bind_some, Root.blk, killR_e, killR_cs (I.rel.clean k r hg), walk, List.getElem?_map, sub_killC]
            unfold St.free
            cases hg : st.s.get (.tmp d 0) with
            | none => rfl
            | some r => rw [blk_del (fun h => hkeq h.symm)]; exact kk
          obtain ⟨e0, cs0, cap, ad, h1, h2, h3, h4, h5⟩ := hxv
          have hv0 : VC1 X (st.free (.tmp d 0)).s (.ref k (i0 :: p0) 0 n) (.slice ad n cap) := VC1_ref tr0 ⟨e0, cs0, cap, ad, h1, h2, h3, rfl, h5⟩
          have hsplit : (i0 :: p0) = (i0 :: p0).dropLast ++ [(i0 :: p0).getLast (by simp)] := (List.dropLast_concat_getLast (by simp)).symm
          generalize hpd : (i0 :: p0).dropLast = pd at hsplit ⊢
          generalize hpi : (i0 :: p0).getLast (by simp) = i at hsplit ⊢
          have hlenp : (i0 :: p0).length = pd.length + 1 := by rw [hsplit]; simp
          -- refs behind the owner are put aside
          have S1 := Stp.kill I0.rel k (pd.length + 1)
          have I1 := I0.step S1 rfl (ma' := st.ma) (mb' := st.mb) (fun j h => by rw [hmab.1] at h; simpa using h) (fun j h => by rw [hmab.2] at h; simpa using h)
          have hn1 := I0.rel.noN_kill k (pd.length + 1)
          have hb0 : (st.free (.tmp d 0)).s.blk k (i0 :: p0) = some (inf.size, cs) := by rw [blk0 _ (by simp)]; exact hb
          have kk1 : ∀ q, q ≠ [] → ((st.free (.tmp d 0)).s.kill k (pd.length + 1)).blk k q = (st.free (.tmp d 0)).s.blk k q := fun q hq => by
            simp only [Sto.blk, Sto.get_kill]
            cases hg : (st.free (.tmp d 0)).s.get k with
            | none => rfl
            | some r =>
              cases q with
              | nil => exact absurd rfl hq
              | cons i q => simp only [Option.map_some, Option.bind_some, Root.blk, killR_e, killR_cs (I0.rel.clean k r hg), walk, List.getElem?_map, sub_killC]
          have hb1 : ((st.free (.tmp d 0)).s.kill k (pd.length + 1)).blk k (pd ++ [i]) = some (inf.size, cs) := by rw [← hsplit, kk1 _ (by simp)]; exact hb0
          obtain ⟨ep, csp, hbp, xo, hxo, hsub⟩ : ∃ ep csp, ((st.free (.tmp d 0)).s.kill k (pd.length + 1)).blk k pd = some (ep, csp) ∧ ∃ xo, csp[i]? = some xo ∧ sub (some xo) = some (inf.size, cs) := by
            simp only [Sto.blk] at hb1 ⊢
            cases hg : ((st.free (.tmp d 0)).s.kill k (pd.length + 1)).get k with
            | none => simp [hg] at hb1
            | some r =>
              simp only [hg, Option.bind_some, Root.blk] at hb1 ⊢
              rw [walk_append] at hb1
              cases hw : walk (r.e, r.cs) pd with
              | none => simp [hw] at hb1
              | some b =>
                rw [hw, Option.bind_some] at hb1
                refine ⟨b.1, b.2, rfl, ?_⟩
                simp only [walk] at hb1
                cases hx2 : b.2[i]? with
                | none => rw [hx2] at hb1; simp at hb1
                | some xo =>
                  refine ⟨xo, rfl, ?_⟩
                  rw [hx2] at hb1
                  cases hs : sub (some xo) with
                  | none => rw [hs] at hb1; simp at hb1
                  | some b' => rw [hs] at hb1; simpa using hb1
          have hK1 : ((st.free (.tmp d 0)).s.kill k (pd.length + 1)).get (.tmp d 0) = none := by rw [Sto.get_kill, hK]; rfl
          have own1 : ((st.free (.tmp d 0)).s.kill k (pd.length + 1)).owned k := Sto.owned_kill.2 own0
          obtain ⟨d1, d2, d3⟩ := S1.rel.detach hK1 hn1 own1 hbp hxo hsub (kd := .lst) (by simp)
          -- as one step
          have S2 : Stp X ((st.free (.tmp d 0)).s.kill k (pd.length + 1)) w (X.cut (.tmp d 0) k pd i) ((((st.free (.tmp d 0)).s.kill k (pd.length + 1)).put k pd i .dead).set (.tmp d 0) ⟨.lst, inf.size, cs⟩) w (killC k (pd.length + 1)) k.argL [] := {
            rel := d1
            vc := fun c v hv => VC_kill (fun k' q h => d2 k' q fun hk => by subst hk; exact Nat.lt_of_not_le fun hh => h ⟨rfl, hh⟩) hv
            fr := Fr.refl _ _ _
            foot := by
              rintro b ⟨k', q, j, ho, hbb, hj, rfl⟩
              obtain ⟨b', hbb⟩ := Option.isSome_iff_exists.1 hbb
              by_cases hk' : k' = .tmp d 0
              · subst hk'
                have : (X.cut (.tmp d 0) k pd i) (.tmp d 0) q = X k (pd ++ [i] ++ q) := by unfold EM.cut; rw [if_pos rfl]
                rw [this] at hj ⊢
                refine .inl ⟨k, pd ++ [i] ++ q, j, own1, ?_, hj, rfl⟩
                rw [blkS_new, if_pos rfl] at hbb
                rw [blkS_under hb1, hbb]; rfl
              · have : (X.cut (.tmp d 0) k pd i) k' q = X k' q := by unfold EM.cut; rw [if_neg hk']
                rw [this] at hj ⊢
                refine .inl ⟨k', q, j, ?_, ?_, hj, rfl⟩
                · obtain ⟨r, g1, g2⟩ := ho
                  rw [Sto.get_set, if_neg (fun h => hk' h.symm)] at g1
                  exact (Sto.owned_put _ k pd i .dead k').1 ⟨r, g1, g2⟩
                · rw [blkS_new, if_neg (fun h => hk' h.symm), Sto.blkS_put _ k pd i .dead hbp (getElem?_len hxo)] at hbb
                  by_cases hkk : k = k'
                  · subst hkk
                    simp only [if_true] at hbb
                    cases hs : strip pd q with
                    | none => rw [hs] at hbb; simp only at hbb; rw [hbb]; rfl
                    | some u =>
                      rw [hs] at hbb
                      cases u with
                      | nil => have : q = pd := by simpa using strip_some hs
                               rw [this, Sto.blkS_of_blk hbp]; rfl
                      | cons j' t' =>
                        by_cases hjj : i = j'
                        · subst hjj; simp at hbb
                        · simp only [hjj, if_false] at hbb; rw [hbb]; rfl
                  · simp only [hkk, if_false] at hbb; rw [hbb]; rfl
            k1 := fun j h _ q => d2 _ q fun hk => absurd (by rw [hk]; simp [Key.argL] : j ∈ k.argL) h
            k2 := fun j _ => d2 _ [] fun _ => by simp }
          have I2 := I1.step S2 rfl (ma' := addL st.ma k) (mb' := st.mb) (fun j h => mem_addL h) (fun j h => by simpa using h)
          rw [mapT_mapT] at I2
          have hkk : (killC k (pd.length + 1)) ∘ (killC k (pd.length + 1)) = killC k (pd.length + 1) := by
            have k11 : ∀ c, kill1 k (pd.length + 1) (kill1 k (pd.length + 1) c) = kill1 k (pd.length + 1) c := fun c => by
              cases c with
              | ref k' p' o' n' => simp only [kill1]; by_cases hh : k' = k ∧ pd.length + 1 ≤ p'.length <;> simp [hh, kill1]
              | ptr k' p' c' => simp only [kill1]; by_cases hh : k' = k ∧ pd.length + 1 ≤ p'.length <;> simp [hh, kill1]
              | _ => rfl
            funext c
            show killC k (pd.length + 1) (killC k (pd.length + 1) c) = killC k (pd.length + 1) c
            cases c with
            | fn f caps => simp only [killC, List.map_map]; congr 1; exact List.map_congr_left fun c _ => k11 c
            | ifc t c => simp only [killC, k11]
            | ref k' p' o' n' => simp only [killC, kill1]; by_cases hh : k' = k ∧ pd.length + 1 ≤ p'.length <;> simp [hh, killC, kill1]
            | ptr k' p' c' => simp only [killC, kill1]; by_cases hh : k' = k ∧ pd.length + 1 ≤ p'.length <;> simp [hh, killC, kill1]
            | _ => rfl
          rw [hkk] at I2
          have hv2 : VC1 (X.cut (.tmp d 0) k pd i) ((((st.free (.tmp d 0)).s.kill k (pd.length + 1)).put k pd i .dead).set (.tmp d 0) ⟨.lst, inf.size, cs⟩) (.ref (.tmp d 0) [] 0 n) (.slice ad n cap) := by
            have t1 : Tr X (st.free (.tmp d 0)).s k (i0 :: p0) X ((st.free (.tmp d 0)).s.kill k (pd.length + 1)) k (pd ++ [i]) := by
              rw [← hsplit]; exact Tr_kill I0.rel k (pd.length + 1) k (i0 :: p0)
            have t2 := d3 []
            simp only [List.append_nil] at t2
            exact VC1_ref (t1.trans t2) hv0
          have Sx := S.same (X' := X.cut (.tmp d 0) k pd i) (s' := (((st.free (.tmp d 0)).s.kill k (pd.length + 1)).put k pd i .dead).set (.tmp d 0) ⟨.lst, inf.size, cs⟩) (fun k' hk' hg => by
            have hne : k' ≠ .tmp d 0 := fun hh => hksd (by rw [hk', hh])
            have hne2 : k' ≠ k := fun hh => hks (by rw [hk', hh])
            refine ⟨?_, by unfold EM.cut; rw [if_neg hne]⟩
            rw [Sto.get_set, if_neg (fun h => hne h.symm)]
            unfold Sto.put
            rw [hbp]
            simp only [Sto.get_setBlk]
            rw [if_neg (fun h => hne2 h.symm)]
            exact kill_lst (free_get hne hg) k _)
          rw [h4]
          rw [hlenp]
          exact grow_sound I2 hd ht hi hz hzl ty (K := .tmp d 0) (cs := cs) (by rw [Sto.get_set, if_pos rfl]) hv2 hn Sx hksd hl1 hl2 (mb := st.mb) (fun j h => by simpa [Key.argL] using h)
        · cases h
      · cases h
    · cases h
end
end Go.AK


/- All operations together; code, walked. Conditions: none. -/
set_option linter.unusedSimpArgs false
set_option linter.unusedVariables false
namespace Go.AK
open Go

def aop (st : St) : AO → Option St
  | .alloc d zs => ast st (.alloc d zs)
  | .box d x => ast st (.box d x)
  | .bslice d e zs n ps => ast st (.bslice d e zs n ps)
  | .mslice d e b zs n => ast st (.mslice d e b zs n)
  | .store sz x v => ast st (.store sz x v)
  | .app d e bytes cons x y => aapp st d e bytes cons (evo st.t x) (evo st.t y)
  | ao => (aval st ao).map fun av => ⟨st.t.set ao.dst av, st.s, st.ma, st.mb⟩

section
variable {P : Program} {B : Base} {N : Nat} {st : St} {a : Act} {w : World}

theorem form_dst {cons : Bool} {d : Tmp} {op : Op} {ao : AO} (h : form P cons d op = some ao) : ao.dst = d := by
  unfold form at h
  split at h
  all_goals first
    | (cases h; rfl)
    | (obtain ⟨_, _, rfl⟩ := Option.map_eq_some_iff.1 h; rfl)
    | (repeat' (split at h)) <;> first | (cases h; done) | (cases h; rfl) | (obtain ⟨_, _, rfl⟩ := Option.map_eq_some_iff.1 h; rfl)

theorem zl_of (el : TypeId) {inf : TypeInfo} (hi : P.info? el = some inf) {zs : List Value} (hz : zsOf P el = some zs) : ∃ z, inf.zero = some z ∧ zs = z.cells.toList := by
  obtain ⟨inf', z, h1, h2, h3, _⟩ := zsOf_spec hz
  rw [hi] at h1; cases h1
  exact ⟨z, h2, h3⟩

/-- Operations that leave every cell as it was. -/
def grOp : AO → Bool
  | .store .. | .app .. => false
  | _ => true
def Done (P : Program) (B : Base) (N : Nat) (o : Oper) (a : Act) (w : World) (st' : St) (gr : Bool) : Prop :=
  (∃ u w', (execOp a.eval o).run P w = .ok (.value u) w' ∧ Inv B N st' (a.put o.dst u) w' ∧ (gr = true → Grows w w')) ∨
  (∃ w', (execOp a.eval o).run P w = .ok .skip w' ∧ gr = false ∧ Inv B N st' (a.put o.dst undef) w')

theorem op_sound {X : EM} (I : InvX B N X st a w) {cons : Bool} {o : Oper} {ao : AO} (hc : comp P N cons o = some ao) {st' : St} (h : aop st ao = some st') : Done P B N o a w st' (grOp ao) := by
  unfold comp at hc
  split at hc
  · rename_i d hdst
    split at hc
    · rename_i hd
      have hfd := form_dst hc
      -- a value, and nothing else
      have val : ∀ av, aval st ao = some av → (st' = ⟨st.t.set ao.dst av, st.s, st.ma, st.mb⟩) → Done P B N o a w st' (grOp ao) := fun av hav he => by
        obtain ⟨v, h1, h2⟩ := aval_sound I hc hav
        subst he
        refine .inl ⟨v, w, h1 w (fun _ => Grows.refl w), ⟨X, ?_⟩, fun _ => Grows.refl w⟩
        rw [hdst, hfd]
        exact I.put hd h2
      have mem : ∀ {d' : Tmp}, (∃ u w' X', (execOp a.eval o).run P w = .ok (.value u) w' ∧ InvX B N X' st' (a.put o.dst u) w' ∧ Grows w w') → Done P B N o a w st' (grOp ao) := fun ⟨u, w', X', h1, h2, h3⟩ => .inl ⟨u, w', h1, ⟨X', h2⟩, fun _ => h3⟩
      unfold aop at h
      split at h
      · -- alloc
        rename_i d' zs
        unfold form at hc
        split at hc <;> first
          | (cases hc; done)
          | (rename_i e ho
             obtain ⟨zs', hz, he⟩ := Option.map_eq_some_iff.1 hc
             cases he
             exact mem (d' := d) (op_alloc I hd ho hdst hz h))
          | ((repeat' (split at hc)) <;> first | (cases hc; done) | (obtain ⟨_, _, hh⟩ := Option.map_eq_some_iff.1 hc; cases hh; done))
      · rename_i d' x
        unfold form at hc
        split at hc <;> first
          | (cases hc; done)
          | (rename_i e x' ho; cases hc; exact mem (d' := d) (op_box I hd ho hdst h))
          | (obtain ⟨_, _, hh⟩ := Option.map_eq_some_iff.1 hc; cases hh; done)
          | ((repeat' (split at hc)) <;> first | (cases hc; done) | (obtain ⟨_, _, hh⟩ := Option.map_eq_some_iff.1 hc; cases hh; done))
      · rename_i d' e zs n ps
        unfold form at hc
        split at hc
        case h_7 t len ps' ho =>
          split at hc
          · rename_i el he
            split at hc
            · rename_i sz zs' hsz hz
              split at hc
              · rename_i hcd; cases hc; exact mem (d' := d) (op_bslice I hd ho hdst he hsz hz hcd.1 hcd.2.1 hcd.2.2 h)
              · cases hc
            · cases hc
          · cases hc
        all_goals first
          | (cases hc; done)
          | (obtain ⟨_, _, hh⟩ := Option.map_eq_some_iff.1 hc; cases hh; done)
          | ((repeat' (split at hc)) <;> first | (cases hc; done) | (obtain ⟨_, _, hh⟩ := Option.map_eq_some_iff.1 hc; cases hh; done))
      · rename_i d' e b zs n
        unfold form at hc
        split at hc
        case h_12 t l c ho =>
          split at hc
          · rename_i el i j he
            split at hc
            · rename_i inf zs' hi hz
              split at hc
              · rename_i hcd
                obtain ⟨rfl, hsz, hpos⟩ := hcd
                cases hc
                exact mem (d' := d) (op_mslice I hd ho hdst he hi hz hsz hpos h)
              · cases hc
            · cases hc
          · cases hc
        all_goals first
          | (cases hc; done)
          | (obtain ⟨_, _, hh⟩ := Option.map_eq_some_iff.1 hc; cases hh; done)
          | ((repeat' (split at hc)) <;> first | (cases hc; done) | (obtain ⟨_, _, hh⟩ := Option.map_eq_some_iff.1 hc; cases hh; done))
      · exfalso
        unfold form at hc
        split at hc
        all_goals first
          | (cases hc; done)
          | (obtain ⟨_, _, hh⟩ := Option.map_eq_some_iff.1 hc; cases hh; done)
          | ((repeat' (split at hc)) <;> first | (cases hc; done) | (obtain ⟨_, _, hh⟩ := Option.map_eq_some_iff.1 hc; cases hh; done))
      · rename_i d' e bytes cons' x y
        unfold form at hc
        split at hc
        case h_25 ar at_ ho =>
          split at hc
          · rename_i x' y' t u h1 h2
            split at hc
            · rename_i el el' he he'
              split at hc
              · rename_i inf hi
                split at hc
                · rename_i hcd
                  obtain ⟨rfl, rfl, hpos, hzs⟩ := hcd
                  cases hc
                  obtain ⟨zs, hz, hzlen⟩ := Option.map_eq_some_iff.1 hzs
                  obtain ⟨z, hz1, hz2⟩ := zl_of el hi hz
                  have ha' : ar = #[x, y] := by rw [← Array.toList_inj]; exact h1
                  have hat' : at_ = #[t, t] := by rw [← Array.toList_inj]; exact h2
                  subst ha' hat'
                  obtain ⟨v, w', X', h3, h4⟩ := aapp_sound (P := P) I hd (elOf_some he) hi hz1 (by rw [← hz2]; exact hzlen) o.type h
                  refine .inl ⟨v, w', ?_, ⟨X', by rw [hdst]; exact h4⟩, fun hh => by cases hh⟩
                  simp [execOp, ho, resolve, invoke, builtin, h3]
                · cases hc
              · cases hc
            · cases hc
          · cases hc
        all_goals first
          | (cases hc; done)
          | (obtain ⟨_, _, hh⟩ := Option.map_eq_some_iff.1 hc; cases hh; done)
          | ((repeat' (split at hc)) <;> first | (cases hc; done) | (obtain ⟨_, _, hh⟩ := Option.map_eq_some_iff.1 hc; cases hh; done))
      · obtain ⟨av, h1, h2⟩ := Option.map_eq_some_iff.1 h
        exact val av h1 h2.symm
    · cases hc
  · rename_i hdst
    split at hc
    · rename_i t x v ho
      obtain ⟨sz, hz, rfl⟩ := Option.map_eq_some_iff.1 hc
      obtain ⟨w', X', h1, h2⟩ := op_store I ho hdst hz h
      exact .inr ⟨w', h1, rfl, X', h2⟩
    · cases hc
end
end Go.AK


/- Regions, walked in their order. Conditions: none. -/
set_option linter.unusedSimpArgs false
set_option linter.unusedVariables false
namespace Go.AK
open Go

inductive RI where
  | op (g : Option (Tmp × Bool)) (ao : AO)
  | call (g : Option (Tmp × Bool)) (d : Option Tmp) (f : FuncId) (args : List Operand)
  | callv (g : Option (Tmp × Bool)) (d : Option Tmp) (c : Callee) (args : List Operand)
  | keep (ts : List Tmp)
  | drop (ks : List Key)
  | gh
  | appv (d : Tmp) (e bytes : Nat) (x y : Operand)

def RI.real : RI → Bool
  | .keep _ | .drop _ | .gh => false
  | _ => true
/-- The operation that is walked. -/
def RI.plain : RI → RI
  | .appv d e bytes x y => .op none (.app d e bytes false x y)
  | r => r
def guardOf (ops : Array Oper) (o : Oper) : Option (Option (Tmp × Bool)) :=
  match o.guard with
  | none => some none
  | some (j, want) => match (ops[j]?).bind (·.dst) with
    | some t => some (some (t, want))
    | none => none

def bslDst (o : Oper) : Option Tmp := match o.op with
  | .buildSlice .. => o.dst
  | _ => none
def consOf (prev : Option Tmp) (o : Oper) : Bool := match prev, o.op with
  | some t, .call { callee := .builtin .append, args, .. } => match args.toList with
    | [_, .tmp u] => t == u
    | _ => false
  | _, _ => false
def fnOk (P : Program) (N : Nat) (f : FuncId) (d : Option Tmp) : Bool := match P.funcs[f]? with
  | some fn => fn.body.isSome && fn.name != "runtime.NumGoroutine" && (match d with
    | some d => decide (d < N)
    | none => true)
  | none => false
def callOf (P : Program) (N : Nat) (g : Option (Tmp × Bool)) (f : FuncId) (d : Option Tmp) (args : List Operand) : Bool → Option RI
  | true => some (.call g d f args)
  | false => none
def dOk (N : Nat) (d : Option Tmp) : Bool := match d with
  | some d => decide (d < N)
  | none => true
def isDyn : Callee → Bool
  | .value (.func _) => false
  | .value _ => true
  | .invoke .. => true
  | _ => false
def dynOf (N : Nat) (g : Option (Tmp × Bool)) (o : Oper) : Option RI := match o.op with
  | .call c => if (isDyn c.callee && dOk N o.dst) = true then some (.callv g o.dst c.callee c.args.toList) else none
  | _ => none
theorem dynOf_is {N : Nat} {g : Option (Tmp × Bool)} {o : Oper} {r : RI} (h : dynOf N g o = some r) : ∃ c : Call, o.op = .call c ∧ dOk N o.dst = true ∧ r = .callv g o.dst c.callee c.args.toList := by
  unfold dynOf at h
  split at h
  · rename_i c hc
    split at h
    · rename_i hh
      simp only [Bool.and_eq_true] at hh
      cases h
      exact ⟨c, hc, hh.2, rfl⟩
    · cases h
  · cases h
def compRI (P : Program) (N : Nat) (ops : Array Oper) (prev : Option Tmp) (o : Oper) : Option RI :=
  match guardOf ops o with
  | none => none
  | some g => match o.op with
    | .call { callee := .value (.func f), args, .. } => callOf P N g f o.dst args.toList (fnOk P N f o.dst)
    | _ => match dynOf N g o with
      | some r => some r
      | none => (comp P N (consOf prev o) o).map (.op g)
def compOps (P : Program) (N : Nat) (ops : Array Oper) : Option Tmp → List Oper → Option (List RI)
  | _, [] => some []
  | prev, o :: r => match compRI P N ops prev o, compOps P N ops (bslDst o) r with
    | some x, some l => some (x :: l)
    | _, _ => none
/-! ### the walk -/
inductive AE where
  | nrm
  | ret
  | exit (id : Nat)

def onSome (o : Option St) (p : St → Prop) : Prop := ∃ x, o = some x ∧ p x
def Tm.keep (t : Tm) (ts : List Tmp) : Tm := ts.map fun i => (i, t.get i)
def St.keep (st : St) (ts : List Tmp) : St := ⟨st.t.keep ts, st.s, st.ma, st.mb⟩
def isArg : Key → Bool
  | .arg _ => true
  | _ => false
def St.dropK (st : St) : List Key → St
  | [] => st
  | k :: r => (if isArg k = true then st else st.free k).dropK r
/-- Whether an operation comes up. -/
def gd (t : Tm) : Option (Tmp × Bool) → Option Bool
  | none => some true
  | some (i, want) => match t.get i with
    | .c (.sc (.bool b)) => some (b == want)
    | .tup [] => some false
    | _ => none
def putD (st : St) : Option Tmp → AV → St
  | some d, av => ⟨st.t.set d av, st.s, st.ma, st.mb⟩
  | none, _ => st
def AO.hasDst : AO → Bool
  | .store .. => false
  | _ => true
def gop (st : St) (g : Option (Tmp × Bool)) (ao : AO) : Option St :=
  match gd st.t g with
  | some true => aop st ao
  | some false => some (if ao.hasDst = true then ⟨st.t.set ao.dst (.tup []), st.s, st.ma, st.mb⟩ else st)
  | none => none

/-- A call in a state: whatever the world, it comes back, and then it is so. -/
def callK (P : Program) (N : Nat) (d : Option Tmp) (f : FuncId) (args : List Operand) (K : St → Prop) (st : St) : Prop := ∀ B a w, Inv B N st a w →
  Calls P f (args.map a.eval).toArray w fun e w' => ∃ v st', e = .returned v ∧ K st' ∧ Inv B N st' (a.put d v) w'

/-- A call of a value: which function it is shows in the state. -/
def callvK (P : Program) (N : Nat) (d : Option Tmp) (c : Callee) (args : List Operand) (K : St → Prop) (st : St) : Prop :=
  ∃ (f : FuncId) (args' : List Operand), (∀ B a w, Inv B N st a w → ∀ (o : Oper) (cl : Call), o.op = .call cl → cl.callee = c → cl.args.toList = args → (execOp a.eval o).run P w = .ok (.enter f (args'.map a.eval).toArray) w) ∧ callK P N d f args' K st
/-- What holds of a state holds of the other. -/
def Weak (N : Nat) (st st' : St) : Prop := ∀ (B : Base) (a : Act) (w : World), Inv B N st a w → Inv B N st' a w
theorem Weak.refl (N : Nat) (st : St) : Weak N st st := fun _ _ _ h => h
theorem Weak.trans {N : Nat} {st st' st'' : St} (h : Weak N st st') (h' : Weak N st' st'') : Weak N st st'' := fun B a w I => h' B a w (h B a w I)

/-- append, whose outcomes are told apart. -/
def AppQ (P : Program) (N : Nat) (st : St) (d : Tmp) (e bytes : Nat) (x y : Operand) (Q : St → Prop) : Prop :=
  ∀ (B : Base) (X : EM) (a : Act) (w : World) (t el ty : TypeId) (inf : TypeInfo) (z : Value), InvX B N X st a w → d < N → P.underlying t = some (.slice el) → P.info? el = some inf → inf.zero = some z → z.cells.toList.length = inf.size →
    inf.size = e → inf.bytes = bytes → ∃ v w' st', (Builtin.append_ #[t, t] ty #[a.eval x, a.eval y]).run P w = .ok v w' ∧ Q st' ∧ Inv B N st' (a.put (some d) v) w'
def awOps (P : Program) (N : Nat) : List RI → (St → Prop) → St → Prop
  | [], K, st => K st
  | .op g ao :: r, K, st => onSome (gop st g ao) (awOps P N r K)
  | .call g d f args :: r, K, st => match gd st.t g with
    | some true => callK P N d f args (awOps P N r K) st
    | some false => awOps P N r K (putD st d (.tup []))
    | none => False
  | .callv g d c args :: r, K, st => match gd st.t g with
    | some true => callvK P N d c args (awOps P N r K) st
    | some false => awOps P N r K (putD st d (.tup []))
    | none => False
  | .keep ts :: r, K, st => awOps P N r K (st.keep ts)
  | .drop ks :: r, K, st => awOps P N r K (st.dropK ks)
  | .gh :: r, K, st => ∃ st', Weak N st st' ∧ awOps P N r K st'
  | .appv d e bytes x y :: r, K, st => AppQ P N st d e bytes x y (awOps P N r K)

section
variable {P : Program} {B : Base} {N : Nat}

theorem Inv.keep {st : St} {a : Act} {w : World} (I : Inv B N st a w) (ts : List Tmp) : Inv B N (st.keep ts) a w := by
  obtain ⟨X, I⟩ := I
  refine ⟨X, ⟨I.rel, fun i => ?_, I.size, I.defers, I.fr, I.foot, I.keep, I.gb⟩⟩
  have key : ∀ ts : List Tmp, VA X st.s (Tm.get (st.t.keep ts) i) (a.tmps.getD i undef) := fun ts => by
    induction ts with
    | nil => trivial
    | cons j ts ih =>
      show VA X st.s (if j = i then st.t.get j else Tm.get (st.t.keep ts) i) _
      by_cases h : j = i
      · rw [if_pos h, h]; exact I.tmps i
      · rw [if_neg h]; exact ih
  exact key ts
theorem Inv.dropK {a : Act} {w : World} : ∀ (ks : List Key) {st : St}, Inv B N st a w → Inv B N (st.dropK ks) a w
  | [], _, I => I
  | k :: ks, st, I => by
    refine Inv.dropK ks ?_
    by_cases h : isArg k = true
    · rw [if_pos h]; exact I
    · rw [if_neg h]
      obtain ⟨X, I⟩ := I
      exact ⟨X, (free_step I k (fun j hh => h (by rw [hh]; rfl))).1⟩

theorem Inv.dead {st : St} {a : Act} {w : World} (I : Inv B N st a w) {d : Tmp} (hd : d < N) : Inv B N ⟨st.t.set d (.tup []), st.s, st.ma, st.mb⟩ (a.put (some d) undef) w := by
  obtain ⟨X, I⟩ := I
  exact ⟨X, I.put hd (av := .tup []) ⟨[], rfl, trivial⟩⟩

theorem comp_dst {cons : Bool} {o : Oper} {ao : AO} (h : comp P N cons o = some ao) : (ao.hasDst = true ∧ o.dst = some ao.dst ∧ ao.dst < N) ∨ (ao.hasDst = false ∧ o.dst = none) := by
  unfold comp at h
  split at h
  · rename_i d hd
    split at h
    · rename_i hlt
      have := form_dst h
      refine .inl ⟨?_, by rw [this]; exact hd, by rw [this]; exact hlt⟩
      cases ao with
      | store sz x v =>
        exfalso
        unfold form at h
        split at h
        all_goals first
          | (cases h; done)
          | (obtain ⟨_, _, hh⟩ := Option.map_eq_some_iff.1 h; cases hh; done)
          | ((repeat' (split at h)) <;> first | (cases h; done) | (obtain ⟨_, _, hh⟩ := Option.map_eq_some_iff.1 h; cases hh; done))
      | _ => rfl
    · cases h
  · rename_i hd
    split at h
    · obtain ⟨_, _, rfl⟩ := Option.map_eq_some_iff.1 h; exact .inr ⟨rfl, hd⟩
    · cases h

theorem guard_spec {ops : Array Oper} {o : Oper} {g : Option (Tmp × Bool)} (hg : guardOf ops o = some g) {X : EM} {st : St} {a : Act} {w : World} (I : InvX B N X st a w) {b : Bool} (hgd : gd st.t g = some b) : Region.wanted o (yielded ops a.tmps) = b := by
  unfold guardOf at hg
  unfold Region.wanted
  cases hgo : o.guard with
  | none => rw [hgo] at hg; cases hg; cases hgd; rfl
  | some q =>
    obtain ⟨j, want⟩ := q
    rw [hgo] at hg
    simp only at hg ⊢
    cases ht : (ops[j]?).bind (·.dst) with
    | none => rw [ht] at hg; cases hg
    | some t =>
      rw [ht] at hg
      cases hg
      simp only [gd] at hgd
      split at hgd
      · rename_i b' hb'
        have h1 := I.tmps t
        rw [hb'] at h1
        have h2 : a.tmps.getD t undef = .bool b' := h1.1
        have h3 : yielded ops a.tmps j = some b' := by
          unfold yielded
          rw [ht]
          simp only [Option.bind_some]
          have h4 : a.tmps[t]? = some (.bool b') := by
            rw [Array.getD_eq_getD_getElem?] at h2
            cases h5 : a.tmps[t]? with
            | none => rw [h5] at h2; cases h2
            | some u => rw [h5] at h2; simpa using h2
          rw [h4]
        rw [h3]
        cases hgd
        cases b' <;> cases want <;> rfl
      · rename_i htup
        cases hgd
        have h1 := I.tmps t
        rw [htup] at h1
        obtain ⟨us, hu, hal⟩ := h1
        have h3 : yielded ops a.tmps j = none := by
          unfold yielded
          rw [ht]
          simp only [Option.bind_some]
          rw [Array.getD_eq_getD_getElem?] at hu
          cases h5 : a.tmps[t]? with
          | none => rfl
          | some u => rw [h5] at hu; simp at hu; rw [hu]
        rw [h3]; rfl
      · cases hgd

theorem compRI_appv {ops : Array Oper} {prev : Option Tmp} {o : Oper} {d : Tmp} {e bytes : Nat} {x y : Operand} : compRI P N ops prev o ≠ some (.appv d e bytes x y) := by
  intro h
  unfold compRI at h
  split at h
  · cases h
  · split at h
    · unfold callOf at h; split at h <;> cases h
    · split at h
      · rename_i hr; obtain ⟨_, _, _, rfl⟩ := dynOf_is hr; cases h
      · obtain ⟨_, _, h⟩ := Option.map_eq_some_iff.1 h; cases h
/-- What a compiled append is. -/
theorem comp_app {cons : Bool} {o : Oper} {d e bytes : Nat} {c : Bool} {x y : Operand} (hc : comp P N cons o = some (.app d e bytes c x y)) : o.dst = some d ∧ d < N ∧ ∃ (t el : TypeId) (inf : TypeInfo) (z : Value),
    (∀ (a : Act) (w : World) (v : Value) (w' : World), (Builtin.append_ #[t, t] o.type #[a.eval x, a.eval y]).run P w = .ok v w' → (execOp a.eval o).run P w = .ok (.value v) w') ∧
      P.underlying t = some (.slice el) ∧ P.info? el = some inf ∧ inf.zero = some z ∧ z.cells.toList.length = inf.size ∧ inf.size = e ∧ inf.bytes = bytes := by
  unfold comp at hc
  split at hc
  · rename_i d0 hdst
    split at hc
    · rename_i hd
      have hfd := form_dst hc
      have hdd : d = d0 := hfd
      subst hdd
      refine ⟨hdst, hd, ?_⟩
      unfold form at hc
      split at hc
      case h_25 ar at_ ho =>
        split at hc
        · rename_i x' y' t u h1 h2
          split at hc
          · rename_i el el' he he'
            split at hc
            · rename_i inf hi
              split at hc
              · rename_i hcd
                obtain ⟨rfl, rfl, hpos, hzs⟩ := hcd
                cases hc
                obtain ⟨zs, hz, hzlen⟩ := Option.map_eq_some_iff.1 hzs
                obtain ⟨z, hz1, hz2⟩ := zl_of el hi hz
                have ha' : ar = #[x, y] := by rw [← Array.toList_inj]; exact h1
                have hat' : at_ = #[t, t] := by rw [← Array.toList_inj]; exact h2
                subst ha' hat'
                exact ⟨t, el, inf, z, fun a w v w' h3 => by simp [execOp, ho, resolve, invoke, builtin, h3], elOf_some he, hi, hz1, by rw [← hz2]; exact hzlen, rfl, rfl⟩
              · cases hc
            · cases hc
          · cases hc
        · cases hc
      all_goals first
        | (cases hc; done)
        | (obtain ⟨_, _, hh⟩ := Option.map_eq_some_iff.1 hc; cases hh; done)
        | ((repeat' (split at hc)) <;> first | (cases hc; done) | (obtain ⟨_, _, hh⟩ := Option.map_eq_some_iff.1 hc; cases hh; done))
    · cases hc
  · split at hc
    · obtain ⟨_, _, hh⟩ := Option.map_eq_some_iff.1 hc; cases hh
    · cases hc
theorem awOps_sound (ops : Array Oper) (Q : Exit → Act → World → Prop) : ∀ (l : List RI) (i : Nat) (prev : Option Tmp) (rest : List Oper) (K : St → Prop) (st : St) (a : Act) (w : World),
    compOps P N ops prev rest = some (l.filter RI.real) → (∀ j, rest[j]? = ops[i + j]?) → awOps P N l K st → Inv B N st a w →
    (∀ st a w, K st → Inv B N st a w → Q .normal a w) → wpOps P ops Q (List.range' i rest.length) a w
  | [], i, prev, rest, K, st, a, w, hc, hr, h, I, hK => by
    cases rest with
    | nil => exact hK st a w h I
    | cons o rest =>
      simp only [compOps] at hc
      split at hc <;> simp at hc
  | .keep ts :: l, i, prev, rest, K, st, a, w, hc, hr, h, I, hK => awOps_sound ops Q l i prev rest K _ a w hc hr h (I.keep ts) hK
  | .drop ks :: l, i, prev, rest, K, st, a, w, hc, hr, h, I, hK => awOps_sound ops Q l i prev rest K _ a w hc hr h (I.dropK ks) hK
  | .gh :: l, i, prev, rest, K, st, a, w, hc, hr, ⟨_, hw, h⟩, I, hK => awOps_sound ops Q l i prev rest K _ a w hc hr h (hw B a w I) hK
  | .op g ao :: l, i, prev, rest, K, st, a, w, hc, hr, h, I, hK => by
    have hf : (RI.op g ao :: l).filter RI.real = .op g ao :: l.filter RI.real := rfl
    rw [hf] at hc
    cases rest with
    | nil => simp [compOps] at hc
    | cons o rest =>
      simp only [compOps] at hc
      split at hc
      · rename_i x l' hx hl'
        simp only [Option.some.injEq, List.cons.injEq] at hc
        obtain ⟨rfl, rfl⟩ := hc
        have hoi : ops[i]? = some o := by have := hr 0; simpa using this.symm
        have hr' : ∀ j, rest[j]? = ops[i + 1 + j]? := fun j => by have := hr (j + 1); simp at this; rw [this, Nat.add_assoc, Nat.add_comm 1 j]
        unfold compRI at hx
        split at hx
        · cases hx
        · rename_i g' hg
          have hop : g' = g ∧ comp P N (consOf prev o) o = some ao := by
            split at hx
            · unfold callOf at hx
              split at hx <;> cases hx
            · split at hx
              · rename_i hr; obtain ⟨_, _, _, rfl⟩ := dynOf_is hr; cases hx
              · obtain ⟨ao', h1, h2⟩ := Option.map_eq_some_iff.1 hx
                cases h2
                exact ⟨rfl, h1⟩
          obtain ⟨rfl, hcomp⟩ := hop
          obtain ⟨X, IX⟩ := I
          simp only [awOps] at h
          obtain ⟨st', hgop, hrest⟩ := h
          simp only [List.length_cons, List.range'_succ, wpOps, hoi]
          unfold gop at hgop
          split at hgop
          · rename_i hgd
            rw [guard_spec hg IX hgd]
            simp only [if_true]
            left
            have ih := fun a' w' (I' : Inv B N st' a' w') => awOps_sound ops Q l (i + 1) (bslDst o) rest K st' a' w' hl' hr' hrest I' hK
            rcases op_sound IX hcomp hgop with ⟨u, w', h1, h2, _⟩ | ⟨w', h1, _, h2⟩
            · simp only [Oper.wp, h1, Oper.upon]; exact ih _ _ h2
            · simp only [Oper.wp, h1, Oper.upon]; exact ih _ _ h2
          · rename_i hgd
            rw [guard_spec hg IX hgd]
            simp only [Bool.false_eq_true, if_false]
            cases hgop
            refine awOps_sound ops Q l (i + 1) (bslDst o) rest K _ _ w hl' hr' hrest ?_ hK
            rcases comp_dst hcomp with ⟨h1, h2, h3⟩ | ⟨h1, h2⟩
            · rw [if_pos h1, h2]; exact Inv.dead ⟨X, IX⟩ h3
            · rw [if_neg (by simp [h1]), h2]; exact ⟨X, IX⟩
          · cases hgop
      · cases hc
  | .appv d e bytes x y :: l, i, prev, rest, K, st, a, w, hc, hr, h, I, hK => by
    have hf : (RI.appv d e bytes x y :: l).filter RI.real = .appv d e bytes x y :: l.filter RI.real := rfl
    rw [hf] at hc
    cases rest with
    | nil => simp [compOps] at hc
    | cons o rest =>
      simp only [compOps] at hc
      split at hc
      · rename_i x l' hx hl'
        simp only [Option.some.injEq, List.cons.injEq] at hc
        obtain ⟨rfl, _⟩ := hc
        exact absurd hx compRI_appv
      · cases hc
  | .call g d f args :: l, i, prev, rest, K, st, a, w, hc, hr, h, I, hK => by
    have hf : (RI.call g d f args :: l).filter RI.real = .call g d f args :: l.filter RI.real := rfl
    rw [hf] at hc
    cases rest with
    | nil => simp [compOps] at hc
    | cons o rest =>
      simp only [compOps] at hc
      split at hc
      · rename_i x l' hx hl'
        simp only [Option.some.injEq, List.cons.injEq] at hc
        obtain ⟨rfl, rfl⟩ := hc
        have hoi : ops[i]? = some o := by have := hr 0; simpa using this.symm
        have hr' : ∀ j, rest[j]? = ops[i + 1 + j]? := fun j => by have := hr (j + 1); simp at this; rw [this, Nat.add_assoc, Nat.add_comm 1 j]
        unfold compRI at hx
        split at hx
        · cases hx
        · rename_i g' hg
          split at hx
          · rename_i f' args' at' hop
            unfold callOf at hx
            split at hx
            · rename_i hok
              cases hx
              unfold fnOk at hok
              split at hok
              · rename_i fn hfn
                have hcd := hok
                obtain ⟨X, IX⟩ := I
                simp only [Bool.and_eq_true, bne_iff_ne, ne_eq] at hcd
                simp only [awOps] at h
                simp only [List.length_cons, List.range'_succ, wpOps, hoi]
                have ih := fun st' a' w' hrest (I' : Inv B N st' a' w') => awOps_sound ops Q l (i + 1) (bslDst o) rest K st' a' w' hl' hr' hrest I' hK
                have hd : ∀ d', o.dst = some d' → d' < N := fun d' hd' => by rw [hd'] at hcd; simpa using hcd.2
                split at h
                · rename_i hgd
                  rw [guard_spec hg IX hgd]
                  simp only [if_true]
                  left
                  have hbody : fn.body.isNone = false := by cases hb : fn.body <;> simp [hb] at hcd ⊢
                  have hrun : (execOp a.eval o).run P w = .ok (.enter f (args'.toList.map a.eval).toArray) w := by
                    have hn : (fn.name == "runtime.NumGoroutine") = false := by simpa using hcd.1.2
                    simp [execOp, hop, resolve, invoke, Act.eval, Deferred.ofValue, callFunc, hfn, hbody]
                    have hn' : ¬ (fn.name = "runtime.NumGoroutine") := hcd.1.2
                    have hbn : ¬ (fn.body = none) := by intro hh; rw [hh] at hbody; simp at hbody
                    simp only [hn', hbn, if_false]
                    rw [← Array.toList_map]
                  simp only [Oper.wp, hrun, Oper.upon]
                  refine (h B a w ⟨X, IX⟩).mono fun e w' ⟨v, st', he, hrest, I'⟩ => ?_
                  subst he
                  exact ih st' _ _ hrest I'
                · rename_i hgd
                  rw [guard_spec hg IX hgd]
                  simp only [Bool.false_eq_true, if_false]
                  refine ih _ _ _ h ?_
                  cases hod : o.dst with
                  | none => exact ⟨X, IX⟩
                  | some d' => exact Inv.dead ⟨X, IX⟩ (hd d' hod)
                · exact h.elim
              · cases hok
            · cases hx
          · split at hx
            · rename_i hr; obtain ⟨_, _, _, rfl⟩ := dynOf_is hr; cases hx
            · obtain ⟨ao', _, h2⟩ := Option.map_eq_some_iff.1 hx
              cases h2
      · cases hc
  | .callv g d c args :: l, i, prev, rest, K, st, a, w, hc, hr, h, I, hK => by
    have hf : (RI.callv g d c args :: l).filter RI.real = .callv g d c args :: l.filter RI.real := rfl
    rw [hf] at hc
    cases rest with
    | nil => simp [compOps] at hc
    | cons o rest =>
      simp only [compOps] at hc
      split at hc
      · rename_i x l' hx hl'
        simp only [Option.some.injEq, List.cons.injEq] at hc
        obtain ⟨rfl, rfl⟩ := hc
        have hoi : ops[i]? = some o := by have := hr 0; simpa using this.symm
        have hr' : ∀ j, rest[j]? = ops[i + 1 + j]? := fun j => by have := hr (j + 1); simp at this; rw [this, Nat.add_assoc, Nat.add_comm 1 j]
        unfold compRI at hx
        split at hx
        · cases hx
        · rename_i g' hg
          split at hx
          · unfold callOf at hx; split at hx <;> cases hx
          · split at hx
            · rename_i hrr
              obtain ⟨cl, hop, hdk, rfl⟩ := dynOf_is hrr
              cases hx
              obtain ⟨X, IX⟩ := I
              simp only [awOps] at h
              simp only [List.length_cons, List.range'_succ, wpOps, hoi]
              have ih := fun st' a' w' hrest (I' : Inv B N st' a' w') => awOps_sound ops Q l (i + 1) (bslDst o) rest K st' a' w' hl' hr' hrest I' hK
              have hd : ∀ d', o.dst = some d' → d' < N := fun d' hd' => by rw [hd'] at hdk; simpa [dOk] using hdk
              split at h
              · rename_i hgd
                rw [guard_spec hg IX hgd]
                simp only [if_true]
                left
                obtain ⟨f, args', hrun, h⟩ := h
                have hrun := hrun B a w ⟨X, IX⟩ o cl hop rfl rfl
                simp only [Oper.wp, hrun, Oper.upon]
                refine (h B a w ⟨X, IX⟩).mono fun e w' ⟨v, st', he, hrest, I'⟩ => ?_
                subst he
                exact ih st' _ _ hrest I'
              · rename_i hgd
                rw [guard_spec hg IX hgd]
                simp only [Bool.false_eq_true, if_false]
                refine ih _ _ _ h ?_
                cases hod : o.dst with
                | none => exact ⟨X, IX⟩
                | some d' => exact Inv.dead ⟨X, IX⟩ (hd d' hod)
              · exact h.elim
            · obtain ⟨ao', _, h2⟩ := Option.map_eq_some_iff.1 hx
              cases h2
      · cases hc

end
end Go.AK


/- Regions that draw their order: what may be taken first. Conditions: none. -/
set_option linter.unusedSimpArgs false
set_option linter.unusedVariables false
namespace Go.AK
open Go

theorem Grows.trans {w w' w'' : World} (h : Grows w w') (h' : Grows w' w'') : Grows w w'' := fun a v hv => h' a v (h a v hv)

section
variable {P : Program} {ops : Array Oper} {md : Region.Mode} {Q : Exit → Act → World → Prop} {cls : Nat → Bool}

/-- Operation i comes up; those of the class leave every cell as it was. -/
def gOp (P : Program) (ops : Array Oper) (cls : Nat → Bool) (Q : Exit → Act → World → Prop) (i : Nat) (K : Act → World → Prop) (a : Act) (w : World) : Prop :=
  match ops[i]? with
  | none => K a w
  | some o => if Region.wanted o (yielded ops a.tmps) then
      (if cls i = true then ∃ v w', (execOp a.eval o).run P w = .ok (.value v) w' ∧ Grows w w' ∧ K (a.put o.dst v) w' else o.wp P a w K Q)
    else K (a.put o.dst undef) w
def gAny (P : Program) (md : Region.Mode) (ops : Array Oper) (cls : Nat → Bool) (Q : Exit → Act → World → Prop) : Nat → Array Bool → Act → World → Prop
  | 0, listed, a, w => Region.ready md ops listed = [] ∧ Q .normal a w
  | fuel + 1, listed, a, w =>
    (Region.ready md ops listed = [] → Q .normal a w) ∧
    ∀ i ∈ Region.ready md ops listed, gOp P ops cls Q i (gAny P md ops cls Q fuel (listed.setIfInBounds i true)) a w

theorem gOp_mono {i : Nat} {a : Act} {w : World} {K K' : Act → World → Prop} (h : ∀ a w, K a w → K' a w) (hh : gOp P ops cls Q i K a w) : gOp P ops cls Q i K' a w := by
  unfold gOp at *
  split
  · rename_i ho; simp only [ho] at hh; exact h _ _ hh
  · rename_i o ho
    simp only [ho] at hh
    split
    · rename_i hw
      simp only [hw, if_true] at hh
      split
      · rename_i hc; rw [if_pos hc] at hh; obtain ⟨v, w', h1, h2, h3⟩ := hh; exact ⟨v, w', h1, h2, h _ _ h3⟩
      · rename_i hc; rw [if_neg hc] at hh; exact Oper.wp_mono h hh
    · rename_i hw; rw [if_neg hw] at hh; exact h _ _ hh

theorem wpOp_of_gOp {i : Nat} {a : Act} {w : World} {K K' : Act → World → Prop} (h : ∀ a w, K a w → K' a w) (hh : gOp P ops cls Q i K a w) : wpOp P ops Q i K' a w := by
  unfold gOp at hh
  unfold wpOp
  split
  · rename_i ho; simp only [ho] at hh; exact h _ _ hh
  · rename_i o ho
    simp only [ho] at hh
    split
    · rename_i hw
      simp only [hw, if_true] at hh
      left
      split at hh
      · obtain ⟨v, w', h1, h2, h3⟩ := hh
        simp only [Oper.wp, h1, Oper.upon]
        exact h _ _ h3
      · exact Oper.wp_mono h hh
    · rename_i hw; rw [if_neg hw] at hh; exact h _ _ hh
theorem wpAny_of_gAny : ∀ (fuel : Nat) (listed : Array Bool) (a : Act) (w : World), gAny P md ops cls Q fuel listed a w → wpAny P md ops Q fuel listed a w
  | 0, _, _, _, h => h
  | fuel + 1, listed, _, _, h => ⟨h.1, fun i hi => wpOp_of_gOp (fun a w => wpAny_of_gAny fuel _ a w) (h.2 i hi)⟩

/-- What is known of an operation that is to be taken first: its value, in every world (or in every world that has grown). -/
def YG (P : Program) (ops : Array Oper) (o : Oper) (rd : Bool) (v : Value) (a : Act) (w : World) : Prop :=
  (Region.wanted o (yielded ops a.tmps) = true ∧ ∀ w', (rd = true → Grows w w') → (execOp a.eval o).run P w' = .ok (.value v) w') ∨
  (Region.wanted o (yielded ops a.tmps) = false ∧ v = undef)

theorem YG.of_same {o : Oper} {rd : Bool} {v : Value} {a a' : Act} {w w' : World} (hy : YG P ops o rd v a w) (he : execOp a'.eval o = execOp a.eval o)
    (hw : Region.wanted o (yielded ops a'.tmps) = Region.wanted o (yielded ops a.tmps)) (hg : rd = true → Grows w w') : YG P ops o rd v a' w' := by
  rcases hy with ⟨h1, h2⟩ | ⟨h1, h2⟩
  · exact .inl ⟨hw.trans h1, fun w2 h3 => by rw [he]; exact h2 w2 fun h => (hg h).trans (h3 h)⟩
  · exact .inr ⟨hw.trans h1, h2⟩
theorem YG.gOp {i : Nat} {o : Oper} {rd : Bool} {v : Value} {a : Act} {w : World} (hi : ops[i]? = some o) (hc : cls i = true) (hy : YG P ops o rd v a w)
    {K : Act → World → Prop} (h : K (a.put o.dst v) w) : gOp P ops cls Q i K a w := by
  unfold Go.AK.gOp
  simp only [hi]
  rcases hy with ⟨hw, hv⟩ | ⟨hw, rfl⟩
  · rw [if_pos hw, if_pos hc]; exact ⟨v, w, hv w (fun _ => Grows.refl w), Grows.refl w, h⟩
  · rw [if_neg (by simp [hw])]; exact h

theorem gOp_put {j : Nat} {oi oj : Oper} {rd : Bool} {v : Value} (hj : ops[j]? = some oj) (hap : oi.apart ops oj = true) (hcj : rd = true → cls j = true)
    (hsi : ∀ cs b, oi.op ≠ .select cs b) (hsj : ∀ cs b, oj.op ≠ .select cs b)
    (hQ : ∀ c a w, ¬ Q (.panic c) a w) {K : Act → World → Prop} {a : Act} {w : World}
    (hy : YG P ops oi rd v a w) (h : gOp P ops cls Q j K (a.put oi.dst v) w) :
    gOp P ops cls Q j (fun a' w' => YG P ops oi rd v a' w' ∧ K (a'.put oi.dst v) w') a w := by
  obtain ⟨h1, h2, h3⟩ := Oper.apart_spec hap
  have keep : ∀ (a : Act) (w w' : World), (rd = true → Grows w w') → YG P ops oi rd v a w → ∀ u, YG P ops oi rd v (a.put oj.dst u) w' := fun a w w' hg hy u =>
    hy.of_same (execOp_put oi hsi a oj.dst u h3) (wanted_put oi a oj.dst u h3) hg
  have keepD : ∀ d, YG P ops oi rd v { a with defers := d :: a.defers } w := fun d => hy.of_same rfl rfl (fun _ => Grows.refl w)
  unfold gOp at *
  simp only [hj] at *
  rw [wanted_put oj a oi.dst v h1] at h
  split
  · rename_i hw
    simp only [hw, if_true] at h
    split
    · rename_i hc
      rw [if_pos hc] at h
      obtain ⟨u, w', h4, h5, h6⟩ := h
      rw [execOp_put oj hsj a oi.dst v h1] at h4
      exact ⟨u, w', h4, h5, keep a w w' (fun _ => h5) hy u, by rw [← Act.put_comm a v u h2]; exact h6⟩
    · rename_i hc
      rw [if_neg hc] at h
      have hrd : rd = true → False := fun hr => hc (hcj hr)
      have any : ∀ {w' : World}, rd = true → Grows w w' := fun hr => (hrd hr).elim
      unfold Oper.wp at *
      rw [execOp_put oj hsj a oi.dst v h1] at h
      generalize (execOp a.eval oj).run P w = r at *
      cases r with
      | ok n w' =>
        cases n <;> simp only [Oper.upon] at h ⊢
        case value u => exact ⟨keep a w w' any hy u, by rw [← Act.put_comm a v u h2]; exact h⟩
        case skip => exact ⟨keep a w w' any hy _, by rw [← Act.put_comm a v undef h2]; exact h⟩
        case defer d =>
          refine ⟨keep _ w w' any (keepD d) _, ?_⟩
          rw [← Act.put_comm _ v undef h2, ← Act.put_defers]
          exact h
        case enter f args =>
          refine Calls.mono h fun e w'' he => ?_
          cases e with
          | returned u => exact ⟨keep a w w'' any hy u, by rw [← Act.put_comm a v u h2]; exact he⟩
          | panicked c => exact (hQ _ _ _ he).elim
          | outgrown => exact he
        case row row args => exact Rows.mono h fun u w'' he => ⟨keep a w w'' any hy u, by rw [← Act.put_comm a v u h2]; exact he⟩
      | halt x w' =>
        cases x <;> simp only [Oper.upon] at h ⊢
        case panic u => exact (hQ _ _ _ h).elim
  · rename_i hw
    rw [if_neg hw] at h
    exact ⟨keep a w w (fun _ => Grows.refl w) hy _, by rw [← Act.put_comm a v undef h2]; exact h⟩

/-- **An operation that may come up, whose value is told, may be taken first**: a reader, if all that may come up beside it is of the class; another, whatever may. -/
theorem gAny_first {i : Nat} {oi : Oper} {rd : Bool} {v : Value} (hi : ops[i]? = some oi) (hci : cls i = true) (hsel : ∀ (j : Nat) (o : Oper) cs b, ops[j]? = some o → o.op ≠ .select cs b)
    (hQ : ∀ c a w, ¬ Q (.panic c) a w) {U : Nat → Bool} (hdep : ∀ j oj, ops[j]? = some oj → U j = true → ∃ e ∈ oj.after, Region.binds md e = true ∧ (e.on = i ∨ U e.on = true)) :
    ∀ (fuel : Nat) (listed : Array Bool) (a : Act) (w : World), (∀ j, U j = true → listed.getD j false = false) →
      (∀ j oj, ops[j]? = some oj → j ≠ i → listed.getD j true = false → U j = false → oi.apart ops oj = true ∧ (rd = true → cls j = true)) →
      i ∈ Region.ready md ops listed → YG P ops oi rd v a w →
      gAny P md ops cls Q fuel (listed.setIfInBounds i true) (a.put oi.dst v) w → gAny P md ops cls Q (fuel + 1) listed a w := by
  intro fuel
  induction fuel with
  | zero =>
    intro listed a w _ _ hr hy H
    refine ⟨fun h => (by rw [h] at hr; cases hr), fun j hj => ?_⟩
    by_cases hji : j = i
    · subst hji; exact hy.gOp hi hci H
    · have := ready_mono hj hji
      rw [H.1] at this
      cases this
  | succ fuel ih =>
    intro listed a w hUl hfree hr hy H
    refine ⟨fun h => (by rw [h] at hr; cases hr), fun j hj => ?_⟩
    by_cases hji : j = i
    · subst hji; exact hy.gOp hi hci H
    · have h1 := H.2 j (ready_mono hj hji)
      obtain ⟨hjun, oj, hoj, hall⟩ := mem_ready.1 hj
      have hi0 : listed.getD i false = false := by
        have h0 := (mem_ready.1 hr).1
        rcases Nat.lt_or_ge i listed.size with h' | h'
        · simp [h'] at h0 ⊢; exact h0
        · simp [Array.getElem?_eq_none h']
      have hUj : U j = false := by
        cases hh : U j with
        | false => rfl
        | true =>
          obtain ⟨e, he, hb, hor⟩ := hdep j oj hoj hh
          have h3 := hall e he hb
          rcases hor with h4 | h4
          · rw [h4, hi0] at h3; cases h3
          · rw [hUl _ h4] at h3; cases h3
      have hf := hfree j oj hoj hji hjun hUj
      have h2 := gOp_put hoj hf.1 hf.2 (fun cs b => hsel i oi cs b hi) (fun cs b => hsel j oj cs b hoj) hQ hy h1
      have hfree' : ∀ k ok, ops[k]? = some ok → k ≠ i → (listed.setIfInBounds j true).getD k true = false →
          U k = false → oi.apart ops ok = true ∧ (rd = true → cls k = true) := fun k ok hk hki hun hno => by
        refine hfree k ok hk hki ?_ hno
        by_cases hjk : j = k
        · subst hjk; exact hjun
        · rw [getD_set_ne true hjk] at hun; exact hun
      have hUl' : ∀ k, U k = true → (listed.setIfInBounds j true).getD k false = false := fun k hk => by
        rw [getD_set_ne false (fun hh => by rw [hh, hk] at hUj; cases hUj)]; exact hUl k hk
      refine gOp_mono (fun a' w' h3 => ih (listed.setIfInBounds j true) a' w' hUl' hfree' (ready_mono hr (Ne.symm hji)) h3.1 ?_) h2
      rw [Array.setIfInBounds_comm _ _ hji]
      exact h3.2
end
section
variable {P : Program} {ops : Array Oper} {md : Region.Mode} {Q : Exit → Act → World → Prop} {cls : Nat → Bool}
/-- An operation that does not look at a temporary does not mind what lies there. -/
theorem gOp_skip {j : Nat} {oj : Oper} {d : Option Tmp} {v : Value} (hj : ops[j]? = some oj) (h1 : ∀ e, d = some e → e ∉ oj.looksAt ops) (h2 : ∀ e, d = some e → oj.dst ≠ some e)
    (hsj : ∀ cs b, oj.op ≠ .select cs b) (hQ : ∀ c a w, ¬ Q (.panic c) a w) {K : Act → World → Prop} {a : Act} {w : World}
    (h : gOp P ops cls Q j K (a.put d v) w) : gOp P ops cls Q j (fun a' w' => K (a'.put d v) w') a w := by
  unfold gOp at *
  simp only [hj] at *
  rw [wanted_put oj a d v h1] at h
  split
  · rename_i hw
    simp only [hw, if_true] at h
    split
    · rename_i hc
      rw [if_pos hc] at h
      obtain ⟨u, w', h4, h5, h6⟩ := h
      rw [execOp_put oj hsj a d v h1] at h4
      exact ⟨u, w', h4, h5, by rw [← Act.put_comm a v u h2]; exact h6⟩
    · rename_i hc
      rw [if_neg hc] at h
      unfold Oper.wp at *
      rw [execOp_put oj hsj a d v h1] at h
      generalize (execOp a.eval oj).run P w = r at *
      cases r with
      | ok n w' =>
        cases n <;> simp only [Oper.upon] at h ⊢
        case value u => rw [← Act.put_comm a v u h2]; exact h
        case skip => rw [← Act.put_comm a v undef h2]; exact h
        case defer dd =>
          rw [← Act.put_comm _ v undef h2, ← Act.put_defers]
          exact h
        case enter f args =>
          refine Calls.mono h fun e w'' he => ?_
          cases e with
          | returned u => show K ((a.put oj.dst u).put d v) w''; rw [← Act.put_comm a v u h2]; exact he
          | panicked c => exact (hQ _ _ _ he).elim
          | outgrown => exact he
        case row row args => exact Rows.mono h fun u w'' he => (by show K ((a.put oj.dst u).put d v) w''; rw [← Act.put_comm a v u h2]; exact he)
      | halt x w' =>
        cases x <;> simp only [Oper.upon] at h ⊢
        case panic u => exact (hQ _ _ _ h).elim
  · rename_i hw
    rw [if_neg hw] at h
    rw [← Act.put_comm a v undef h2]; exact h

def puts : List (Option Tmp × Value) → Act → Act
  | [], a => a
  | (d, v) :: l, a => puts l (a.put d v)
theorem puts_append : ∀ (l m : List (Option Tmp × Value)) (a : Act), puts (l ++ m) a = puts m (puts l a)
  | [], _, _ => rfl
  | (d, v) :: l, m, a => puts_append l m (a.put d v)
theorem puts_put {d : Option Tmp} {v : Value} : ∀ (l : List (Option Tmp × Value)) (a : Act), (∀ p ∈ l, ∀ e, d = some e → p.1 ≠ some e) → puts l (a.put d v) = (puts l a).put d v
  | [], _, _ => rfl
  | (e, u) :: l, a, h => by
    show puts l ((a.put d v).put e u) = (puts l (a.put e u)).put d v
    rw [Act.put_comm a v u (h (e, u) List.mem_cons_self)]
    exact puts_put l (a.put e u) fun p hp => h p (List.mem_cons_of_mem _ hp)
theorem Act.put_put (a : Act) (d : Option Tmp) (u v : Value) : (a.put d u).put d v = a.put d v := by
  cases d <;> simp [Act.put]
theorem gOp_puts {j : Nat} {oj : Oper} (hj : ops[j]? = some oj) (hsj : ∀ cs b, oj.op ≠ .select cs b) (hQ : ∀ c a w, ¬ Q (.panic c) a w) {K : Act → World → Prop} : ∀ (l : List (Option Tmp × Value)) (a : Act) (w : World),
    (∀ p ∈ l, ∀ e, p.1 = some e → e ∉ oj.looksAt ops ∧ oj.dst ≠ some e) → gOp P ops cls Q j K (puts l a) w → gOp P ops cls Q j (fun a' w' => K (puts l a') w') a w
  | [], _, _, _, h => h
  | (d, v) :: l, a, w, hl, h =>
    gOp_skip hj (fun e he => (hl _ List.mem_cons_self e he).1) (fun e he => (hl _ List.mem_cons_self e he).2) hsj hQ (K := fun a' w' => K (puts l a') w') (gOp_puts hj hsj hQ l (a.put d v) w (fun p hp => hl p (List.mem_cons_of_mem _ hp)) h)
theorem execOp_puts (o : Oper) (hs : ∀ cs b, o.op ≠ .select cs b) : ∀ (l : List (Option Tmp × Value)) (a : Act), (∀ p ∈ l, ∀ e, p.1 = some e → e ∉ o.looksAt ops) → execOp (puts l a).eval o = execOp a.eval o
  | [], _, _ => rfl
  | (d, v) :: l, a, h => (execOp_puts o hs l (a.put d v) fun p hp => h p (List.mem_cons_of_mem _ hp)).trans (execOp_put (ops := ops) o hs a d v (h _ List.mem_cons_self))
theorem wanted_puts (o : Oper) : ∀ (l : List (Option Tmp × Value)) (a : Act), (∀ p ∈ l, ∀ e, p.1 = some e → e ∉ o.looksAt ops) → Region.wanted o (yielded ops (puts l a).tmps) = Region.wanted o (yielded ops a.tmps)
  | [], _, _ => rfl
  | (d, v) :: l, a, h => (wanted_puts o l (a.put d v) fun p hp => h p (List.mem_cons_of_mem _ hp)).trans (wanted_put (ops := ops) o a d v (h _ List.mem_cons_self))
theorem YG.puts {o : Oper} {rd : Bool} {v : Value} {a : Act} {w : World} {l : List (Option Tmp × Value)} (hs : ∀ cs b, o.op ≠ .select cs b) (h : ∀ p ∈ l, ∀ e, p.1 = some e → e ∉ o.looksAt ops) (hy : YG P ops o rd v (puts l a) w) : YG P ops o rd v a w :=
  hy.of_same (execOp_puts (ops := ops) o hs l a h).symm (wanted_puts (ops := ops) o l a h).symm (fun _ => Grows.refl w)
end
end Go.AK


/- Regions that draw their order: the walk of a plan. Conditions: none. -/
set_option linter.unusedSimpArgs false
set_option linter.unusedVariables false
namespace Go.AK
open Go

def valOp : AO → Bool
  | .alloc .. | .box .. | .bslice .. | .mslice .. | .store .. | .app .. => false
  | _ => true

section
variable {P : Program} {B : Base} {N : Nat} {ops : Array Oper} {st : St} {a : Act} {w : World} {K : St → Prop} {Q : Exit → Act → World → Prop}

theorem aop_val {ao : AO} (hv : valOp ao = true) (st : St) : aop st ao = (aval st ao).map fun av => ⟨st.t.set ao.dst av, st.s, st.ma, st.mb⟩ := by
  cases ao <;> first | rfl | cases hv

/-- One operation by itself: it goes on to a state of K. -/
theorem one_sound {o : Oper} {ri : RI} (hc : compRI P N ops none o = some ri) (h : awOps P N [ri] K st) (I : Inv B N st a w) :
    (Region.wanted o (yielded ops a.tmps) = true → o.wp P a w (fun a' w' => ∃ st', K st' ∧ Inv B N st' a' w') Q) ∧
    (Region.wanted o (yielded ops a.tmps) = false → ∃ st', K st' ∧ Inv B N st' (a.put o.dst undef) w) := by
  obtain ⟨X, IX⟩ := I
  unfold compRI at hc
  split at hc
  · cases hc
  · rename_i g hg
    split at hc
    · rename_i f args at' hop
      unfold callOf at hc
      split at hc
      · rename_i hok
        cases hc
        unfold fnOk at hok
        split at hok
        · rename_i fn hfn
          have hcd := hok
          simp only [Bool.and_eq_true, bne_iff_ne, ne_eq] at hcd
          have hd : ∀ d', o.dst = some d' → d' < N := fun d' hd' => by rw [hd'] at hcd; simpa using hcd.2
          simp only [awOps] at h
          split at h
          · rename_i hgd
            rw [guard_spec hg IX hgd]
            refine ⟨fun _ => ?_, fun hh => by cases hh⟩
            have hbody : fn.body.isNone = false := by cases hb : fn.body <;> simp [hb] at hcd ⊢
            have hrun : (execOp a.eval o).run P w = .ok (.enter f (args.toList.map a.eval).toArray) w := by
              simp [execOp, hop, resolve, invoke, Act.eval, Deferred.ofValue, callFunc, hfn, hbody]
              have hn' : ¬ (fn.name = "runtime.NumGoroutine") := hcd.1.2
              have hbn : ¬ (fn.body = none) := by intro hh; rw [hh] at hbody; simp at hbody
              simp only [hn', hbn, if_false]
              rw [← Array.toList_map]
            simp only [Oper.wp, hrun, Oper.upon]
            refine (h B a w ⟨X, IX⟩).mono fun e w' ⟨v, st', he, hrest, I'⟩ => ?_
            subst he
            exact ⟨st', hrest, I'⟩
          · rename_i hgd
            rw [guard_spec hg IX hgd]
            refine ⟨fun hh => (by cases hh), fun _ => ⟨_, h, ?_⟩⟩
            cases hod : o.dst with
            | none => exact ⟨X, IX⟩
            | some d' => exact Inv.dead ⟨X, IX⟩ (hd d' hod)
          · exact h.elim
        · cases hok
      · cases hc
    · split at hc
      · rename_i hrr
        cases hc
        obtain ⟨cl, hop, hdk, rfl⟩ := dynOf_is hrr
        have hd : ∀ d', o.dst = some d' → d' < N := fun d' hd' => by rw [hd'] at hdk; simpa [dOk] using hdk
        simp only [awOps] at h
        split at h
        · rename_i hgd
          rw [guard_spec hg IX hgd]
          refine ⟨fun _ => ?_, fun hh => by cases hh⟩
          obtain ⟨f, args', hrun, h⟩ := h
          have hrun := hrun B a w ⟨X, IX⟩ o cl hop rfl rfl
          simp only [Oper.wp, hrun, Oper.upon]
          refine (h B a w ⟨X, IX⟩).mono fun e w' ⟨v, st', he, hrest, I'⟩ => ?_
          subst he
          exact ⟨st', hrest, I'⟩
        · rename_i hgd
          rw [guard_spec hg IX hgd]
          refine ⟨fun hh => (by cases hh), fun _ => ⟨_, h, ?_⟩⟩
          cases hod : o.dst with
          | none => exact ⟨X, IX⟩
          | some d' => exact Inv.dead ⟨X, IX⟩ (hd d' hod)
        · exact h.elim
      · obtain ⟨ao, hcomp, h2⟩ := Option.map_eq_some_iff.1 hc
        cases h2
        have hcomp' : comp P N (consOf none o) o = some ao := hcomp
        simp only [awOps] at h
        obtain ⟨st', hgop, hrest⟩ := h
        unfold gop at hgop
        split at hgop
        · rename_i hgd
          rw [guard_spec hg IX hgd]
          refine ⟨fun _ => ?_, fun hh => by cases hh⟩
          rcases op_sound IX hcomp hgop with ⟨u, w', h1, h2, _⟩ | ⟨w', h1, _, h2⟩
          · simp only [Oper.wp, h1, Oper.upon]; exact ⟨_, hrest, h2⟩
          · simp only [Oper.wp, h1, Oper.upon]; exact ⟨_, hrest, h2⟩
        · rename_i hgd
          rw [guard_spec hg IX hgd]
          refine ⟨fun hh => (by cases hh), fun _ => ⟨_, hrest, ?_⟩⟩
          cases hgop
          rcases comp_dst hcomp with ⟨h1, h2, h3⟩ | ⟨h1, h2⟩
          · rw [if_pos h1, h2]; exact Inv.dead ⟨X, IX⟩ h3
          · rw [if_neg (by simp [h1]), h2]; exact ⟨X, IX⟩
        · cases hgop
/-- The same, where an append's outcomes are told apart. -/
theorem one_soundv {o : Oper} {ri : RI} (hc : compRI P N ops none o = some ri.plain) (h : awOps P N [ri] K st) (I : Inv B N st a w) :
    (Region.wanted o (yielded ops a.tmps) = true → o.wp P a w (fun a' w' => ∃ st', K st' ∧ Inv B N st' a' w') Q) ∧
    (Region.wanted o (yielded ops a.tmps) = false → ∃ st', K st' ∧ Inv B N st' (a.put o.dst undef) w) := by
  cases ri with
  | appv d e bytes x y =>
    obtain ⟨X, IX⟩ := I
    unfold compRI at hc
    split at hc
    · cases hc
    · rename_i g hg
      split at hc
      · unfold callOf at hc; split at hc <;> cases hc
      · split at hc
        · rename_i hr; obtain ⟨_, _, _, rfl⟩ := dynOf_is hr; cases hc
        · obtain ⟨ao, hcomp, h2⟩ := Option.map_eq_some_iff.1 hc
          cases h2
          obtain ⟨hdst, hd, t, el, inf, z, hrun, k1, k2, k3, k4, k5, k6⟩ := comp_app hcomp
          rw [guard_spec hg IX (b := true) rfl]
          refine ⟨fun _ => ?_, fun hh => by cases hh⟩
          obtain ⟨v, w', st', h1, h2, h3⟩ := h B X a w t el o.type inf z IX hd k1 k2 k3 k4 k5 k6
          simp only [Oper.wp, hrun a w v w' h1, Oper.upon]
          rw [hdst]
          exact ⟨st', h2, h3⟩
  | _ => exact one_sound hc h I
/-- A value's operation by itself: its value is told. -/
theorem val_sound {o : Oper} {g : Option (Tmp × Bool)} {ao : AO} (hc : compRI P N ops none o = some (.op g ao)) (hv : valOp ao = true) (h : awOps P N [.op g ao] K st) (I : Inv B N st a w) :
    ∃ v st', YG P ops o (isLoad o.op) v a w ∧ K st' ∧ Inv B N st' (a.put o.dst v) w := by
  obtain ⟨X, IX⟩ := I
  unfold compRI at hc
  split at hc
  · cases hc
  · rename_i g' hg
    split at hc
    · unfold callOf at hc; split at hc <;> cases hc
    · split at hc
      · rename_i hrr; obtain ⟨_, _, _, rfl⟩ := dynOf_is hrr; cases hc
      · obtain ⟨ao', hcomp, h2⟩ := Option.map_eq_some_iff.1 hc
        cases h2
        simp only [awOps] at h
        obtain ⟨st', hgop, hrest⟩ := h
        unfold gop at hgop
        split at hgop
        · rename_i hgd
          have hw := guard_spec hg IX hgd
          rw [aop_val hv] at hgop
          obtain ⟨av, hav, rfl⟩ := Option.map_eq_some_iff.1 hgop
          unfold comp at hcomp
          split at hcomp
          · rename_i d hdst
            split at hcomp
            · rename_i hd
              have hfd := form_dst hcomp
              obtain ⟨v, h1, h2⟩ := aval_sound IX hcomp hav
              refine ⟨v, _, .inl ⟨hw, h1⟩, hrest, X, ?_⟩
              rw [hdst, hfd]
              exact IX.put hd h2
            · cases hcomp
          · split at hcomp
            · obtain ⟨_, _, rfl⟩ := Option.map_eq_some_iff.1 hcomp; cases hv
            · cases hcomp
        · rename_i hgd
          have hw := guard_spec hg IX hgd
          cases hgop
          refine ⟨undef, _, .inr ⟨hw, rfl⟩, hrest, ?_⟩
          rcases comp_dst hcomp with ⟨h1, h2, h3⟩ | ⟨h1, h2⟩
          · rw [if_pos h1, h2]; exact Inv.dead ⟨X, IX⟩ h3
          · rw [if_neg (by simp [h1]), h2]; exact ⟨X, IX⟩
        · cases hgop
/-- An operation that leaves every cell as it was, by itself. -/
theorem gr_sound {o : Oper} {g : Option (Tmp × Bool)} {ao : AO} (hc : compRI P N ops none o = some (.op g ao)) (hv : grOp ao = true) (h : awOps P N [.op g ao] K st) (I : Inv B N st a w) :
    (Region.wanted o (yielded ops a.tmps) = true → ∃ v w', (execOp a.eval o).run P w = .ok (.value v) w' ∧ Grows w w' ∧ ∃ st', K st' ∧ Inv B N st' (a.put o.dst v) w') ∧
    (Region.wanted o (yielded ops a.tmps) = false → ∃ st', K st' ∧ Inv B N st' (a.put o.dst undef) w) := by
  refine ⟨fun hw => ?_, (one_sound (Q := fun _ _ _ => False) hc h I).2⟩
  obtain ⟨X, IX⟩ := I
  unfold compRI at hc
  split at hc
  · cases hc
  · rename_i g' hg
    split at hc
    · unfold callOf at hc; split at hc <;> cases hc
    · split at hc
      · rename_i hrr; obtain ⟨_, _, _, rfl⟩ := dynOf_is hrr; cases hc
      · obtain ⟨ao', hcomp, h2⟩ := Option.map_eq_some_iff.1 hc
        cases h2
        simp only [awOps] at h
        obtain ⟨st', hgop, hrest⟩ := h
        unfold gop at hgop
        split at hgop
        · rename_i hgd
          rcases op_sound IX hcomp hgop with ⟨u, w', h1, h2, h3⟩ | ⟨w', h1, h2, _⟩
          · exact ⟨u, w', h1, h3 hv, _, hrest, h2⟩
          · rw [hv] at h2; cases h2
        · rename_i hgd
          rw [guard_spec hg IX hgd] at hw; cases hw
        · cases hgop
end
end Go.AK


/- Regions that draw their order: plans, and that they serve every order. Conditions: none. -/
set_option linter.unusedSimpArgs false
set_option linter.unusedVariables false
namespace Go.AK
open Go

inductive PL where
  | done
  | first (ri : RI) (p : PL)
  | pin (u : List Nat) (ri : RI) (p : PL)
  | alt (ri : RI) (j : Option Nat) (p q : PL)
  | stop
  | gh (p : PL)
def PL.erase : PL → PL
  | .done => .done
  | .first r p => .first r p.erase
  | .pin u r p => .pin u r p.erase
  | .alt r j p q => .alt r.plain j p.erase q.erase
  | .stop => .stop
  | .gh p => p.erase
def PL.isGh : PL → Bool
  | .gh _ => true
  | _ => false
/-- The temporaries that are taken ahead with a check. -/
def PL.pz : PL → List Tmp
  | .done => []
  | .first _ p => p.pz
  | .pin _ (.op _ ao) p => ao.dst :: p.pz
  | .pin _ _ p => p.pz
  | .alt _ _ p q => p.pz ++ q.pz
  | .stop => []
  | .gh p => p.pz

/-- Taken now, the operation gives what its temporary holds. -/
def pinOk (st : St) : RI → Prop
  | .op g ao => match gd st.t g with
    | some true => aval st ao = some (st.t.get ao.dst)
    | some false => st.t.get ao.dst = .tup []
    | none => False
  | _ => False
abbrev Pins := List (List Nat × RI)
def pinK : Pins → (St → Prop) → St → Prop
  | [], k, st => k st
  | r :: l, k, st => pinOk st r.2 ∧ pinK l k st
def pinsF (j : Nat) : Pins → Pins
  | [] => []
  | r :: l => if r.1.contains j = true then pinsF j l else r :: pinsF j l
def pinsL : Option Nat → Pins → Pins
  | none, ps => ps
  | some j, ps => pinsF j ps

def awP (P : Program) (N : Nat) : Pins → PL → (St → Prop) → St → Prop
  | _, .done, K, st => K st
  | ps, .first ri p, K, st => awOps P N [ri] (pinK ps (awP P N ps p K)) st
  | ps, .pin u ri p, K, st => awOps P N [ri] (pinK ((u, ri) :: ps) (awP P N ((u, ri) :: ps) p K)) st
  | ps, .alt ri j p q, K, st => awOps P N [ri] (pinK (pinsL j ps) (awP P N (pinsL j ps) p K)) st ∧ awP P N ps q K st
  | _, .stop, _, _ => True
  | ps, .gh p, K, st => ∃ st', Weak N st st' ∧ pinK ps (awP P N ps p K) st'

def depsOf (o : Oper) : List Nat := (o.after.toList.filter (Region.binds .any)).map (·.on)
def rdyB (ops : Array Oper) (rem : List Nat) (i : Nat) : Bool := match ops[i]? with
  | some o => (depsOf o).all fun d => decide (d < ops.size) && !rem.contains d
  | none => false
def riAt (P : Program) (N : Nat) (ops : Array Oper) (i : Nat) : Option RI := (ops[i]?).bind (compRI P N ops none)
def clsB (P : Program) (N : Nat) (ops : Array Oper) (i : Nat) : Bool := match riAt P N ops i with
  | some (.op _ ao) => grOp ao
  | _ => false
def valB (P : Program) (N : Nat) (ops : Array Oper) (i : Nat) : Bool := match riAt P N ops i with
  | some (.op _ ao) => valOp ao
  | _ => false
def upL (ops : Array Oper) (i : Nat) : List Nat → List Nat → List Nat
  | [], acc => acc
  | j :: r, acc => upL ops i r (match ops[j]? with
    | some o => if (depsOf o).any (fun d => d == i || acc.contains d) then j :: acc else acc
    | none => acc)
def freeB (P : Program) (N : Nat) (ops : Array Oper) (rem U : List Nat) (i : Nat) : Bool := match ops[i]? with
  | none => false
  | some oi => rem.all fun j => j == i || U.contains j || (match ops[j]? with
    | some oj => oi.apart ops oj && (!isLoad oi.op || clsB P N ops j)
    | none => true)
abbrev Pend := List (Nat × List Nat)
def awayB (ops : Array Oper) (pend : Pend) (i : Nat) : Bool := match ops[i]? with
  | none => false
  | some oi => pend.all fun x => !(depsOf oi).contains x.1 && (match ops[x.1]? with
    | some ox => oi.apart ops ox
    | none => false)
def firstB (P : Program) (N : Nat) (ops : Array Oper) (rem : List Nat) (pend : Pend) (i : Nat) : Bool := rdyB ops rem i && valB P N ops i && awayB ops pend i && freeB P N ops rem (upL ops i rem []) i
def usesB (ops : Array Oper) (o : Oper) : Option Tmp → Bool
  | some d => (o.looksAt ops).contains d
  | none => false
def sepB (ops : Array Oper) (oi : Oper) (U : List Nat) (j : Nat) : Bool := match ops[j]? with
  | some oj => !usesB ops oi oj.dst && (match oi.dst with
    | some d => oj.dst != some d
    | none => true) && (U.contains j || !usesB ops oj oi.dst)
  | none => true
def pinB (P : Program) (N : Nat) (ops : Array Oper) (pz : List Tmp) (rem : List Nat) (i : Nat) : Bool := match ops[i]? with
  | none => false
  | some oi => rdyB ops rem i && valB P N ops i && (match oi.dst with
    | some d => pz.contains d
    | none => false) && !usesB ops oi oi.dst && rem.all fun j => j == i || sepB ops oi (upL ops i rem []) j
def altJ (pend : Pend) (i : Nat) : Option Nat := if pend.all (fun x => !x.2.contains i) = true then none else some i
def pendL (pend : Pend) (i : Nat) : Pend := pend.filter fun x => !x.2.contains i
def alts (P : Program) (N : Nat) (ops : Array Oper) (g : List Nat → Pend → Option PL) (rem : List Nat) (pend : Pend) : List Nat → Option PL
  | [] => some .stop
  | i :: l => match riAt P N ops i, g (rem.erase i) (pendL pend i), alts P N ops g rem pend l with
    | some r, some p, some q => some (.alt r (altJ pend i) p q)
    | _, _, _ => none
def planOf (P : Program) (N : Nat) (ops : Array Oper) (pz : List Tmp) : Nat → List Nat → Pend → Option PL
  | 0, rem, _ => if rem.isEmpty then some .done else none
  | f + 1, rem, pend => match rem.find? (firstB P N ops rem pend) with
    | some i => match riAt P N ops i, planOf P N ops pz f (rem.erase i) pend with
      | some r, some p => some (.first r p)
      | _, _ => none
    | none => match rem.find? (pinB P N ops pz rem) with
      | some i => match riAt P N ops i, planOf P N ops pz f (rem.erase i) ((i, upL ops i rem []) :: pend) with
        | some r, some p => some (.pin (upL ops i rem []) r p)
        | _, _ => none
      | none => if (rem.filter (rdyB ops rem)).isEmpty then none else alts P N ops (planOf P N ops pz f) rem pend (rem.filter (rdyB ops rem))

structure LR (ops : Array Oper) (listed : Array Bool) (rem : List Nat) : Prop where
  size : listed.size = ops.size
  lt : ∀ j ∈ rem, j < ops.size
  nd : rem.Nodup
  eq : ∀ j, j < ops.size → listed.getD j false = !rem.contains j

section
variable {P : Program} {B : Base} {N : Nat} {ops : Array Oper} {listed : Array Bool} {rem : List Nat}

theorem LR.getT (L : LR ops listed rem) {j : Nat} : listed.getD j true = false ↔ j ∈ rem := by
  by_cases hj : j < ops.size
  · have h1 := L.eq j hj
    have h2 : listed.getD j true = listed.getD j false := by simp [Array.getD, L.size, hj]
    rw [h2, h1]
    simp
  · have : listed.getD j true = true := by simp [Array.getD, L.size, hj]
    rw [this]
    refine ⟨fun h => (by cases h), fun h => absurd (L.lt j h) hj⟩
theorem LR.rdy (L : LR ops listed rem) {j : Nat} : j ∈ Region.ready .any ops listed ↔ j ∈ rem ∧ rdyB ops rem j = true := by
  rw [mem_ready, L.getT]
  refine and_congr Iff.rfl ?_
  unfold rdyB
  cases ho : ops[j]? with
  | none => simp
  | some o =>
    simp only [Option.some.injEq, exists_eq_left', List.all_eq_true, Bool.and_eq_true, decide_eq_true_eq]
    constructor
    · intro h d hd
      simp only [depsOf, List.mem_map, List.mem_filter] at hd
      obtain ⟨e, ⟨he, hb⟩, rfl⟩ := hd
      have h1 := h e (by simpa using he) hb
      have hlt : e.on < ops.size := by
        rcases Nat.lt_or_ge e.on ops.size with h' | h'
        · exact h'
        · have : listed.getD e.on false = false := by simp [Array.getD, L.size, Nat.not_lt.2 h']
          rw [this] at h1; cases h1
      exact ⟨hlt, by rw [← L.eq _ hlt]; exact h1⟩
    · intro h e he hb
      obtain ⟨h1, h2⟩ := h e.on (by simp only [depsOf, List.mem_map, List.mem_filter]; exact ⟨e, ⟨by simpa using he, hb⟩, rfl⟩)
      rw [L.eq _ h1]; exact h2
theorem LR.take (L : LR ops listed rem) {i : Nat} (hi : i ∈ rem) : LR ops (listed.setIfInBounds i true) (rem.erase i) where
  size := by simp [L.size]
  lt := fun j hj => L.lt j (List.mem_of_mem_erase hj)
  nd := L.nd.erase i
  eq := fun j hj => by
    by_cases hij : i = j
    · subst hij
      have h1 : (listed.setIfInBounds i true).getD i false = true := by simp [L.size, hj]
      rw [h1]
      have : ¬ i ∈ rem.erase i := fun h => (L.nd.mem_erase_iff.1 h).1 rfl
      simp [this]
    · rw [getD_set_ne false hij, L.eq j hj]
      have : j ∈ rem.erase i ↔ j ∈ rem := by rw [L.nd.mem_erase_iff]; exact ⟨fun h => h.2, fun h => ⟨fun e => hij e.symm, h⟩⟩
      simp [this]

theorem upL_spec (i : Nat) : ∀ (r acc : List Nat), (∀ j ∈ acc, ∃ o, ops[j]? = some o ∧ ∃ d ∈ depsOf o, d = i ∨ d ∈ acc) →
    (∀ j ∈ upL ops i r acc, ∃ o, ops[j]? = some o ∧ ∃ d ∈ depsOf o, d = i ∨ d ∈ upL ops i r acc) ∧ ∀ j ∈ upL ops i r acc, j ∈ acc ∨ j ∈ r
  | [], acc, h => ⟨h, fun j hj => .inl hj⟩
  | k :: r, acc, h => by
    simp only [upL]
    cases ho : ops[k]? with
    | none =>
      obtain ⟨h1, h2⟩ := upL_spec i r acc h
      exact ⟨h1, fun j hj => (h2 j hj).imp id (List.mem_cons_of_mem _)⟩
    | some o =>
      simp only
      split
      · rename_i hany
        obtain ⟨d, hd, hor⟩ := List.any_eq_true.1 hany
        obtain ⟨h1, h2⟩ := upL_spec i r (k :: acc) (fun j hj => by
          rcases List.mem_cons.1 hj with rfl | hj
          · refine ⟨o, ho, d, hd, ?_⟩
            simp only [Bool.or_eq_true, beq_iff_eq, List.contains_iff_mem] at hor
            exact hor.imp id (List.mem_cons_of_mem _)
          · obtain ⟨o', h3, d', h4, h5⟩ := h j hj
            exact ⟨o', h3, d', h4, h5.imp id (List.mem_cons_of_mem _)⟩)
        refine ⟨h1, fun j hj => ?_⟩
        rcases h2 j hj with h3 | h3
        · rcases List.mem_cons.1 h3 with rfl | h3
          · exact .inr List.mem_cons_self
          · exact .inl h3
        · exact .inr (List.mem_cons_of_mem _ h3)
      · obtain ⟨h1, h2⟩ := upL_spec i r acc h
        exact ⟨h1, fun j hj => (h2 j hj).imp id (List.mem_cons_of_mem _)⟩


theorem LR.perm {rem' : List Nat} (L : LR ops listed rem) (h : rem.Perm rem') : LR ops listed rem' where
  size := L.size
  lt := fun j hj => L.lt j (h.mem_iff.2 hj)
  nd := h.nodup_iff.1 L.nd
  eq := fun j hj => by
    rw [L.eq j hj]
    have : rem.contains j = rem'.contains j := by rw [Bool.eq_iff_iff]; simp [h.mem_iff]
    rw [this]
theorem LR.mid {A C : List Nat} {i : Nat} (L : LR ops listed (A ++ i :: C)) : LR ops (listed.setIfInBounds i true) (A ++ C) := by
  have h1 := L.take (i := i) (by simp)
  have hn : i ∉ A := fun h => by
    have := L.nd
    rw [List.nodup_append] at this
    exact this.2.2 i h i (by simp) rfl
  rw [List.erase_append_right _ hn, List.erase_cons_head] at h1
  exact h1

variable {K : St → Prop} {Q : Exit → Act → World → Prop}

theorem pinK_iff {ps : Pins} {k : St → Prop} {st : St} : pinK ps k st ↔ (∀ r ∈ ps, pinOk st r.2) ∧ k st := by
  induction ps with
  | nil => simp [pinK]
  | cons r ps ih => simp [pinK, ih, and_assoc]
theorem mem_pinsF {j : Nat} {r : List Nat × RI} (hj : r.1.contains j = false) : ∀ {ps : Pins}, r ∈ ps → r ∈ pinsF j ps
  | [], h => by cases h
  | s :: ps, h => by
    unfold pinsF
    rcases List.mem_cons.1 h with rfl | h
    · rw [hj, if_neg (by simp)]; exact List.mem_cons_self
    · split
      · exact mem_pinsF hj h
      · exact List.mem_cons_of_mem _ (mem_pinsF hj h)

theorem awP_strip {ps : Pins} : ∀ (p : PL) {st : St}, pinK ps (awP P N ps p K) st → ∃ q st', Weak N st st' ∧ pinK ps (awP P N ps q K) st' ∧ q.erase = p.erase ∧ q.isGh = false
  | .done, st, h => ⟨_, st, Weak.refl _ _, h, rfl, rfl⟩
  | .first r p, st, h => ⟨.first r p, st, Weak.refl _ _, h, rfl, rfl⟩
  | .pin u r p, st, h => ⟨.pin u r p, st, Weak.refl _ _, h, rfl, rfl⟩
  | .alt r j p q, st, h => ⟨.alt r j p q, st, Weak.refl _ _, h, rfl, rfl⟩
  | .stop, st, h => ⟨.stop, st, Weak.refl _ _, h, rfl, rfl⟩
  | .gh p, st, h => by
    obtain ⟨_, st', hw, h⟩ := pinK_iff.1 h
    obtain ⟨q, st'', h1, h2, h3, h4⟩ := awP_strip p h
    exact ⟨q, st'', hw.trans h1, h2, h3, h4⟩

theorem alts_spec {g : List Nat → Pend → Option PL} {pend : Pend} {ps : Pins} : ∀ {l : List Nat} {p : PL}, alts P N ops g rem pend l = some p.erase → ∀ {st : St}, pinK ps (awP P N ps p K) st → ∀ j ∈ l,
    ∃ r q st1, Weak N st st1 ∧ riAt P N ops j = some r.plain ∧ g (rem.erase j) (pendL pend j) = some q.erase ∧ awOps P N [r] (pinK (pinsL (altJ pend j) ps) (awP P N (pinsL (altJ pend j) ps) q K)) st1
  | [], _, _, _, _, j, hj => by cases hj
  | i :: l, p, h, st, hp, j, hj => by
    obtain ⟨p', st', hw, hp', he, hg⟩ := awP_strip p hp
    rw [← he] at h
    simp only [alts] at h
    split at h
    · rename_i r q q' h1 h2 h3
      cases p' with
      | alt r0 j0 pa pb =>
        simp only [PL.erase, Option.some.injEq, PL.alt.injEq] at h
        obtain ⟨rfl, rfl, rfl, rfl⟩ := h
        obtain ⟨hpin, hp1, hp2⟩ := pinK_iff.1 hp'
        rcases List.mem_cons.1 hj with rfl | hj
        · exact ⟨r0, pa, st', hw, h1, h2, hp1⟩
        · obtain ⟨r', q', st1, k1, k2⟩ := alts_spec h3 (pinK_iff.2 ⟨hpin, hp2⟩) j hj
          exact ⟨r', q', st1, hw.trans k1, k2⟩
      | gh _ => cases hg
      | _ => simp [PL.erase] at h
    · cases h

/-! ### what is taken ahead with a check -/
theorem InvX.put_same {X : EM} {st : St} {a : Act} {w : World} (I : InvX B N X st a w) {d : Nat} (hd : d < N) {v : Value} (hv : VA X st.s (st.t.get d) v) : InvX B N X st (a.put (some d) v) w where
  rel := I.rel
  tmps := fun i => by
    by_cases h : d = i
    · subst h
      have : (a.put (some d) v).tmps.getD d undef = v := by simp [Act.put, Array.getD, I.size, hd]
      rw [this]; exact hv
    · have : (a.put (some d) v).tmps.getD i undef = a.tmps.getD i undef := by simp [Act.put, Array.getElem?_setIfInBounds_ne h]
      rw [this]; exact I.tmps i
  size := by simp [Act.put, I.size]
  defers := I.defers
  fr := I.fr
  foot := I.foot
  keep := I.keep
  gb := I.gb
theorem pin_sound {st : St} {a : Act} {w : World} {o : Oper} {g : Option (Tmp × Bool)} {ao : AO} (hc : compRI P N ops none o = some (.op g ao)) (hv : valOp ao = true) (h : pinOk st (.op g ao)) (I : Inv B N st a w) :
    ∃ v, YG P ops o (isLoad o.op) v a w ∧ Inv B N st (a.put o.dst v) w := by
  obtain ⟨X, IX⟩ := I
  unfold compRI at hc
  split at hc
  · cases hc
  · rename_i g' hg
    split at hc
    · unfold callOf at hc; split at hc <;> cases hc
    · split at hc
      · rename_i hrr; obtain ⟨_, _, _, rfl⟩ := dynOf_is hrr; cases hc
      · obtain ⟨ao', hcomp, h2⟩ := Option.map_eq_some_iff.1 hc
        cases h2
        simp only [pinOk] at h
        split at h
        · rename_i hgd
          have hw := guard_spec hg IX hgd
          unfold comp at hcomp
          split at hcomp
          · rename_i d hdst
            split at hcomp
            · rename_i hd
              have hfd := form_dst hcomp
              obtain ⟨v, h1, h2⟩ := aval_sound IX hcomp h
              refine ⟨v, .inl ⟨hw, h1⟩, X, ?_⟩
              rw [hdst]
              rw [hfd] at h2
              exact IX.put_same hd h2
            · cases hcomp
          · split at hcomp
            · obtain ⟨_, _, rfl⟩ := Option.map_eq_some_iff.1 hcomp; cases hv
            · cases hcomp
        · rename_i hgd
          have hw := guard_spec hg IX hgd
          refine ⟨undef, .inr ⟨hw, rfl⟩, ?_⟩
          rcases comp_dst hcomp with ⟨h1, h2, h3⟩ | ⟨h1, h2⟩
          · rw [h2]; exact ⟨X, IX.put_same h3 (by rw [h]; exact ⟨[], rfl, trivial⟩)⟩
          · rw [h2]; exact ⟨X, IX⟩
        · exact h.elim

def Sep (ops : Array Oper) (i : Nat) (U : List Nat) (j : Nat) : Prop := ∀ oi oj, ops[i]? = some oi → ops[j]? = some oj →
  (∀ d, oj.dst = some d → d ∉ oi.looksAt ops) ∧ (∀ d, oi.dst = some d → oj.dst ≠ some d) ∧ (j ∈ U ∨ ∀ d, oi.dst = some d → d ∉ oj.looksAt ops)
theorem usesB_false {o : Oper} {d : Option Tmp} (h : usesB ops o d = false) : ∀ e, d = some e → e ∉ o.looksAt ops := by
  rintro e rfl; simpa [usesB] using h
theorem sepB_spec {oi : Oper} {i j : Nat} {U : List Nat} (hi : ops[i]? = some oi) (h : sepB ops oi U j = true) : Sep ops i U j := by
  intro oi' oj hi' hj
  rw [hi] at hi'; cases hi'
  simp only [sepB, hj, Bool.and_eq_true, Bool.or_eq_true, Bool.not_eq_true'] at h
  obtain ⟨⟨h1, h2⟩, h3⟩ := h
  refine ⟨usesB_false h1, fun d hd => ?_, h3.imp (fun h => by simpa using h) usesB_false⟩
  rw [hd] at h2; simpa using h2

structure PD (P : Program) (N : Nat) (ops : Array Oper) (rem : List Nat) (pd : Pend) : Prop where
  sepR : ∀ x ∈ pd, ∀ j ∈ rem, Sep ops x.1 x.2 j
  sepP : pd.Pairwise fun x y => Sep ops x.1 x.2 y.1
  own : ∀ x ∈ pd, ∀ o, ops[x.1]? = some o → ∀ d, o.dst = some d → d ∉ o.looksAt ops
  up : ∀ x ∈ pd, ∀ j ∈ x.2, ∃ o, ops[j]? = some o ∧ ∃ d ∈ depsOf o, d = x.1 ∨ d ∈ x.2
  un : ∀ x ∈ pd, ∀ j ∈ x.2, j ∈ rem ++ pd.map Prod.fst
  val : ∀ x ∈ pd, valB P N ops x.1 = true
  rdR : ∀ x ∈ pd, rdyB ops rem x.1 = true
  rdP : pd.Pairwise fun x y => ∀ o, ops[x.1]? = some o → y.1 ∉ depsOf o
  self : ∀ x ∈ pd, ∀ o, ops[x.1]? = some o → x.1 ∉ depsOf o

theorem PD.notin {pd : Pend} (D : PD P N ops rem pd) (L : LR ops listed (rem ++ pd.map Prod.fst)) {x : Nat × List Nat} (hx : x ∈ pd) {i : Nat} (hi : i ∈ Region.ready .any ops listed) : i ∉ x.2 := fun h => by
  obtain ⟨o, ho, d, hd, hor⟩ := D.up x hx i h
  have h1 := ((L.rdy).1 hi).2
  unfold rdyB at h1
  rw [ho] at h1
  have h2 := List.all_eq_true.1 h1 d hd
  simp only [Bool.and_eq_true, Bool.not_eq_true', decide_eq_true_eq] at h2
  have h3 : d ∉ rem ++ pd.map Prod.fst := by simpa using h2.2
  rcases hor with rfl | hor
  · exact h3 (List.mem_append_right _ (List.mem_map.2 ⟨x, hx, rfl⟩))
  · exact h3 (D.un x hx d hor)
theorem rdyB_mem {i : Nat} {o : Oper} (ho : ops[i]? = some o) : rdyB ops rem i = true ↔ ∀ d ∈ depsOf o, d < ops.size ∧ d ∉ rem := by
  unfold rdyB
  rw [ho]
  simp [List.all_eq_true]

theorem PD.head {x : Nat × List Nat} {pd : Pend} (D : PD P N ops rem (x :: pd)) (L : LR ops listed (rem ++ (x :: pd).map Prod.fst)) : x.1 ∈ Region.ready .any ops listed := by
  refine (L.rdy).2 ⟨by simp, ?_⟩
  have hlt := L.lt x.1 (by simp)
  have ho : ops[x.1]? = some ops[x.1] := by simp [hlt]
  refine (rdyB_mem ho).2 fun d hd => ?_
  obtain ⟨h1, h2⟩ := (rdyB_mem ho).1 (D.rdR x List.mem_cons_self) d hd
  refine ⟨h1, fun h => ?_⟩
  rcases List.mem_append.1 h with h | h
  · exact h2 h
  · rw [List.map_cons] at h
    rcases List.mem_cons.1 h with rfl | h
    · exact D.self x List.mem_cons_self _ ho hd
    · obtain ⟨y, hy, rfl⟩ := List.mem_map.1 h
      exact (List.pairwise_cons.1 D.rdP).1 y hy _ ho hd

theorem PD.sub {rem' : List Nat} {pd : Pend} (D : PD P N ops rem pd) (hs : ∀ j ∈ rem', j ∈ rem) (hu : ∀ x ∈ pd, ∀ j ∈ x.2, j ∈ rem' ++ pd.map Prod.fst) : PD P N ops rem' pd where
  sepR := fun x hx j hj => D.sepR x hx j (hs j hj)
  sepP := D.sepP
  own := D.own
  up := D.up
  un := hu
  val := D.val
  rdR := fun x hx => by
    have h1 := D.rdR x hx
    unfold rdyB at *
    cases ho : ops[x.1]? with
    | none => rw [ho] at h1; exact h1
    | some o =>
      rw [ho] at h1
      simp only [List.all_eq_true, Bool.and_eq_true, decide_eq_true_eq, Bool.not_eq_true', List.contains_eq_mem, decide_eq_false_iff_not] at *
      exact fun d hd => ⟨(h1 d hd).1, fun hh => (h1 d hd).2 (hs d hh)⟩
  rdP := D.rdP
  self := D.self
theorem PD.erase {p1 p2 : Pend} {x : Nat × List Nat} (D : PD P N ops rem (p1 ++ x :: p2)) (hn : ∀ y ∈ p1 ++ x :: p2, x.1 ∉ y.2) : PD P N ops rem (p1 ++ p2) := by
  have hm : ∀ y, y ∈ p1 ++ p2 → y ∈ p1 ++ x :: p2 := fun y hy => by
    rcases List.mem_append.1 hy with h | h
    · exact List.mem_append_left _ h
    · exact List.mem_append_right _ (List.mem_cons_of_mem _ h)
  have hsub : (p1 ++ p2).Sublist (p1 ++ x :: p2) := List.Sublist.append (List.Sublist.refl _) (List.sublist_cons_self _ _)
  exact ⟨fun y hy => D.sepR y (hm y hy), D.sepP.sublist hsub, fun y hy => D.own y (hm y hy), fun y hy => D.up y (hm y hy), fun y hy j hj => by
    have h1 := D.un y (hm y hy) j hj
    have h2 : j ≠ x.1 := fun e => hn y (hm y hy) (e ▸ hj)
    simp only [List.map_append, List.map_cons, List.mem_append, List.mem_cons] at h1 ⊢
    rcases h1 with h | h | h | h
    · exact .inl h
    · exact .inr (.inl h)
    · exact absurd h h2
    · exact .inr (.inr h), fun y hy => D.val y (hm y hy), fun y hy => D.rdR y (hm y hy), D.rdP.sublist hsub, fun y hy => D.self y (hm y hy)⟩

def dstAt (ops : Array Oper) (i : Nat) : Option Tmp := (ops[i]?).bind (·.dst)
/-- The state is right but for what is still to be taken. -/
def Sim (B : Base) (N : Nat) (ops : Array Oper) (pd : Pend) (st : St) (a : Act) (w : World) : Prop := ∃ l : List (Option Tmp × Value), l.map Prod.fst = pd.map (fun x => dstAt ops x.1) ∧ Inv B N st (puts l a) w
theorem Sim.mem {pd : Pend} {l : List (Option Tmp × Value)} (h : l.map Prod.fst = pd.map (fun x => dstAt ops x.1)) {p : Option Tmp × Value} (hp : p ∈ l) : ∃ x ∈ pd, p.1 = dstAt ops x.1 := by
  have h1 : p.1 ∈ l.map Prod.fst := List.mem_map.2 ⟨p, hp, rfl⟩
  rw [h] at h1
  obtain ⟨x, hx, he⟩ := List.mem_map.1 h1
  exact ⟨x, hx, he.symm⟩
theorem valB_cls {i : Nat} (h : valB P N ops i = true) : clsB P N ops i = true := by
  unfold valB at h
  unfold clsB
  cases hr : riAt P N ops i with
  | none => rw [hr] at h; cases h
  | some r =>
    rw [hr] at h
    cases r with
    | op g ao => simp only at h ⊢; cases ao <;> first | rfl | cases h
    | _ => cases h

/-- What waits with a check may be taken when its turn comes. -/
theorem pend_step (hns : Region.noSelect ops = true) {ps : Pins} {p1 p2 : Pend} {x : Nat × List Nat} {st : St} {a : Act} {w : World} (D : PD P N ops rem (p1 ++ x :: p2)) (L : LR ops listed (rem ++ (p1 ++ x :: p2).map Prod.fst))
    (hr : x.1 ∈ Region.ready .any ops listed) (hx : ∃ r, (x.2, r) ∈ ps ∧ riAt P N ops x.1 = some r) (hpin : ∀ r ∈ ps, pinOk st r.2) (S : Sim B N ops (p1 ++ x :: p2) st a w)
    {K' : Act → World → Prop} (hK : ∀ a', Sim B N ops (p1 ++ p2) st a' w → K' a' w) : gOp P ops (clsB P N ops) Q x.1 K' a w := by
  obtain ⟨l, hl, I⟩ := S
  have hlt := L.lt x.1 (by simp)
  have hoi : ops[x.1]? = some ops[x.1] := by simp [hlt]
  obtain ⟨r, hrm, hri⟩ := hx
  have hri' : compRI P N ops none ops[x.1] = some r := by unfold riAt at hri; rw [hoi] at hri; exact hri
  have hv := D.val x (by simp)
  have hcls := valB_cls hv
  unfold valB at hv
  rw [hri] at hv
  split at hv
  · rename_i g ao hh
    cases hh
    obtain ⟨v, hy, I'⟩ := pin_sound hri' hv (hpin _ hrm) I
    have hnot : ∀ y ∈ p1 ++ x :: p2, x.1 ∉ y.2 := fun y hy => D.notin L hy hr
    have hP := List.pairwise_append.1 D.sepP
    have hP2 := List.pairwise_cons.1 hP.2.1
    have hlook : ∀ y ∈ p1 ++ x :: p2, ∀ d, dstAt ops y.1 = some d → d ∉ (ops[x.1]).looksAt ops := fun y hy d hd => by
      unfold dstAt at hd
      obtain ⟨oy, hoy, hd⟩ := Option.bind_eq_some_iff.1 hd
      rcases List.mem_append.1 hy with hy' | hy'
      · have := hP.2.2 y hy' x List.mem_cons_self oy _ hoy hoi
        exact (this.2.2.resolve_left (hnot y hy)) d hd
      · rcases List.mem_cons.1 hy' with rfl | hy'
        · rw [hoi] at hoy; cases hoy; exact D.own y hy _ hoi d hd
        · exact (hP2.1 y hy' _ oy hoi hoy).1 d hd
    have hsel := Region.noSelect_spec hns
    have hy' := hy.puts (fun cs b => hsel x.1 _ cs b hoi) (fun p hp e he => by
      obtain ⟨y, hym, hye⟩ := Sim.mem hl hp
      exact hlook y hym e (hye ▸ he))
    refine hy'.gOp hoi hcls (hK _ ?_)
    rw [List.map_append, List.map_cons, List.map_eq_append_iff] at hl
    obtain ⟨l1, l2', rfl, hl1, hl2'⟩ := hl
    obtain ⟨q, l2, rfl, hq, hl2⟩ := List.map_eq_cons_iff.1 hl2'
    obtain ⟨d, u⟩ := q
    have hdx : dstAt ops x.1 = (ops[x.1]).dst := by unfold dstAt; rw [hoi]; rfl
    rw [hdx] at hq
    simp only at hq
    subst hq
    refine ⟨l1 ++ l2, by rw [List.map_append, hl1, hl2, List.map_append], ?_⟩
    have hne1 : ∀ p ∈ l1, ∀ e, (ops[x.1]).dst = some e → p.1 ≠ some e := fun p hp e he hh => by
      obtain ⟨y, hym, hye⟩ := Sim.mem hl1 hp
      rw [hye] at hh
      unfold dstAt at hh
      obtain ⟨oy, hoy, hd⟩ := Option.bind_eq_some_iff.1 hh
      exact (hP.2.2 y hym x List.mem_cons_self oy _ hoy hoi).2.1 e hd he
    have hne2 : ∀ p ∈ l2, ∀ e, (ops[x.1]).dst = some e → p.1 ≠ some e := fun p hp e he hh => by
      obtain ⟨y, hym, hye⟩ := Sim.mem hl2 hp
      rw [hye] at hh
      unfold dstAt at hh
      obtain ⟨oy, hoy, hd⟩ := Option.bind_eq_some_iff.1 hh
      exact (hP2.1 y hym _ oy hoi hoy).2.1 e he hd
    have e1 : puts (l1 ++ l2) (a.put (ops[x.1]).dst v) = (puts (l1 ++ ((ops[x.1]).dst, u) :: l2) a).put (ops[x.1]).dst v := by
      rw [puts_append, puts_append, puts_put l1 a hne1]
      show _ = (puts l2 ((puts l1 a).put _ u)).put _ v
      rw [← puts_put l2 _ hne2, Act.put_put]
    rw [e1]
    exact I'
  · cases hv

theorem plan_sound (hns : Region.noSelect ops = true) (hQ : ∀ c a w, ¬ Q (.panic c) a w) (hK : ∀ st a w, K st → Inv B N st a w → Q .normal a w) {pz : List Tmp} :
    ∀ (f : Nat) (rem : List Nat) (pend : Pend) (ps : Pins) (p : PL), rem.length = f → planOf P N ops pz f rem pend = some p.erase →
    ∀ (n : Nat) (pd : Pend) (listed : Array Bool) (st : St) (a : Act) (w : World), pd.length = n → (∀ x ∈ pd, x ∈ pend) → (∀ x ∈ pd, ∃ r, (x.2, r) ∈ ps ∧ riAt P N ops x.1 = some r) →
      PD P N ops rem pd → LR ops listed (rem ++ pd.map Prod.fst) → pinK ps (awP P N ps p K) st → Sim B N ops pd st a w → gAny P .any ops (clsB P N ops) Q (f + n) listed a w := by
  have hsel := Region.noSelect_spec hns
  intro f
  induction f with
  | zero =>
    intro rem pend ps p hl hp
    have : rem = [] := List.length_eq_zero_iff.1 hl
    subst this
    intro n
    induction n with
    | zero =>
      intro pd listed st a w hn _ _ D L h S
      have : pd = [] := List.length_eq_zero_iff.1 hn
      subst this
      obtain ⟨p', st', hw, hp', he, hg⟩ := awP_strip p h
      rw [← he] at hp
      have h : K st' := by
        cases p' with
        | done => exact (pinK_iff.1 hp').2
        | gh _ => cases hg
        | _ => simp [planOf, PL.erase] at hp
      obtain ⟨l, hl, I⟩ := S
      have : l = [] := by simpa using hl
      subst this
      refine ⟨?_, hK st' a w h (hw _ _ _ I)⟩
      cases hr : Region.ready .any ops listed with
      | nil => rfl
      | cons j r => have := (L.rdy (j := j)).1 (by rw [hr]; exact List.mem_cons_self); cases this.1
    | succ n ihn =>
      intro pd listed st a w hn hsub hps D L h S
      refine ⟨fun hr => ?_, fun j hj => ?_⟩
      · cases pd with
        | nil => cases hn
        | cons x pd => have := D.head L; rw [hr] at this; cases this
      · have hj' := (L.rdy.1 hj).1
        simp only [List.nil_append] at hj'
        obtain ⟨x, hx, rfl⟩ := List.mem_map.1 hj'
        obtain ⟨p1, p2, rfl⟩ := List.append_of_mem hx
        refine pend_step hns D L hj (hps x hx) (pinK_iff.1 h).1 S fun a' S' => ?_
        have hm : ∀ y, y ∈ p1 ++ p2 → y ∈ p1 ++ x :: p2 := fun y hy => by
          rcases List.mem_append.1 hy with h | h
          · exact List.mem_append_left _ h
          · exact List.mem_append_right _ (List.mem_cons_of_mem _ h)
        refine ihn (p1 ++ p2) _ st a' w (by simp at hn ⊢; omega) (fun y hy => hsub y (hm y hy)) (fun y hy => hps y (hm y hy)) (D.erase fun y hy => D.notin L hy hj) ?_ h S'
        rw [List.map_append, List.map_cons, ← List.append_assoc] at L
        rw [List.map_append, ← List.append_assoc]
        exact L.mid
  | succ f ih =>
    intro rem pend ps p0 hl hp n pd listed st0 a w hn hsub hps D L h S
    obtain ⟨p, st, hwk, h', he, hg⟩ := awP_strip p0 h
    replace S : Sim B N ops pd st a w := by obtain ⟨l, hl, I⟩ := S; exact ⟨l, hl, hwk _ _ _ I⟩
    clear h hwk
    have h := h'
    clear h'
    obtain ⟨hpin, haw⟩ := pinK_iff.1 h
    rw [← he] at hp
    clear he
    induction n using Nat.strongRecOn generalizing pd listed a w with
    | ind n ihn =>
    simp only [planOf] at hp
    split at hp
    · -- first
      rename_i i hfi
      split at hp
      · rename_i r p'e hr hp'
        obtain ⟨p', rfl, rfl⟩ : ∃ p', p'e = p'.erase ∧ p = .first r p' := by
          cases p with
          | first r0 p1 => simp only [PL.erase, Option.some.injEq, PL.first.injEq] at hp; obtain ⟨rfl, rfl⟩ := hp; exact ⟨p1, rfl, rfl⟩
          | gh _ => cases hg
          | _ => simp [PL.erase] at hp
        clear hp
        have hmem := List.mem_of_find?_eq_some hfi
        have hfb := List.find?_some hfi
        simp only [firstB, Bool.and_eq_true] at hfb
        obtain ⟨⟨⟨h1, h2⟩, haway⟩, h3⟩ := hfb
        obtain ⟨oi, hoi, hri⟩ := Option.bind_eq_some_iff.1 hr
        have hcls := valB_cls h2
        unfold valB at h2
        rw [hr] at h2
        split at h2
        · rename_i g ao hh
          cases hh
          obtain ⟨l, hl', I⟩ := S
          obtain ⟨v, st', hy, hk, I'⟩ := val_sound (K := pinK ps (awP P N ps p' K)) hri h2 haw I
          have haw2 : ∀ x ∈ pd, x.1 ∉ depsOf oi ∧ ∃ ox, ops[x.1]? = some ox ∧ oi.apart ops ox = true := fun x hx => by
            unfold awayB at haway
            rw [hoi] at haway
            have := List.all_eq_true.1 haway x (hsub x hx)
            simp only [Bool.and_eq_true, Bool.not_eq_true'] at this
            refine ⟨by simpa using this.1, ?_⟩
            cases hox : ops[x.1]? with
            | none => rw [hox] at this; cases this.2
            | some ox => rw [hox] at this; exact ⟨ox, rfl, this.2⟩
          have hready : i ∈ Region.ready .any ops listed := (L.rdy).2 ⟨List.mem_append_left _ hmem, (rdyB_mem hoi).2 fun d hd => by
            obtain ⟨k1, k2⟩ := (rdyB_mem hoi).1 h1 d hd
            refine ⟨k1, fun hh => ?_⟩
            rcases List.mem_append.1 hh with hh | hh
            · exact k2 hh
            · obtain ⟨x, hx, rfl⟩ := List.mem_map.1 hh
              exact (haw2 x hx).1 hd⟩
          have hdst : ∀ q ∈ l, ∀ e, q.1 = some e → e ∉ oi.looksAt ops ∧ oi.dst ≠ some e := fun q hq e he => by
            obtain ⟨x, hx, hxe⟩ := Sim.mem hl' hq
            obtain ⟨_, ox, hox, hap⟩ := haw2 x hx
            rw [hxe] at he
            unfold dstAt at he
            rw [hox] at he
            obtain ⟨k1, k2, k3⟩ := Oper.apart_spec hap
            exact ⟨k3 e he, fun hh => k2 e hh he⟩
          have hy' := hy.puts (fun cs b => hsel i oi cs b hoi) (fun q hq e he => (hdst q hq e he).1)
          have hnin : ∀ x ∈ pd, i ∉ x.2 := fun x hx => D.notin L hx hready
          have up := upL_spec (ops := ops) i rem [] (fun j hj => by cases hj)
          have hlt := List.length_erase_of_mem hmem
          rw [show f + 1 + n = (f + n) + 1 by omega]
          refine gAny_first (U := fun j => (upL ops i rem []).contains j) hoi hcls hsel hQ (fun j oj hj hU => ?_) (f + n) listed a w (fun j hU => ?_) (fun j oj hj hji hun hU => ?_) hready hy'
            (ih (rem.erase i) pend ps p' (by omega) hp' n pd _ st' _ w hn hsub hps (D.sub (fun j hj => List.mem_of_mem_erase hj) fun x hx j hj => ?_) ?_ hk ⟨l, hl', ?_⟩)
          · obtain ⟨o, ho, d, hd, hor⟩ := up.1 j (by simpa using hU)
            rw [hj] at ho
            cases ho
            simp only [depsOf, List.mem_map, List.mem_filter] at hd
            obtain ⟨e, ⟨he, hb⟩, rfl⟩ := hd
            exact ⟨e, by simpa using he, hb, hor.imp id (fun h => by simpa using h)⟩
          · have hjr : j ∈ rem := (up.2 j (by simpa using hU)).resolve_left (fun h => by cases h)
            rw [L.eq j (L.lt j (List.mem_append_left _ hjr))]; simp [hjr]
          · have hjr := (L.getT).1 hun
            rcases List.mem_append.1 hjr with hjr | hjr
            · unfold freeB at h3
              rw [hoi] at h3
              have h4 := List.all_eq_true.1 h3 j hjr
              simp only [hj, Bool.or_eq_true, beq_iff_eq, Bool.and_eq_true, Bool.not_eq_true'] at h4
              rcases h4 with (h4 | h4) | ⟨h4, h5⟩
              · exact absurd h4 hji
              · rw [h4] at hU; cases hU
              · exact ⟨h4, fun hrd => h5.resolve_left (by rw [hrd]; simp)⟩
            · obtain ⟨x, hx, rfl⟩ := List.mem_map.1 hjr
              obtain ⟨_, ox, hox, hap⟩ := haw2 x hx
              rw [hj] at hox; cases hox
              exact ⟨hap, fun _ => valB_cls (D.val x hx)⟩
          · have hne : j ≠ i := fun e => hnin x hx (e ▸ hj)
            rcases List.mem_append.1 (D.un x hx j hj) with h | h
            · exact List.mem_append_left _ ((List.mem_erase_of_ne hne).2 h)
            · exact List.mem_append_right _ h
          · have := L.take (List.mem_append_left (pd.map Prod.fst) hmem)
            rwa [List.erase_append_left _ hmem] at this
          · rw [puts_put l a (fun q hq e he hh => (hdst q hq e hh).2 he)]; exact I'
        · cases h2
      · cases hp
    · split at hp
      · -- with a check
        rename_i i hfi
        split at hp
        · rename_i r p'e hr hp'
          obtain ⟨p', rfl, rfl⟩ : ∃ p', p'e = p'.erase ∧ p = .pin (upL ops i rem []) r p' := by
            cases p with
            | pin u0 r0 p1 => simp only [PL.erase, Option.some.injEq, PL.pin.injEq] at hp; obtain ⟨rfl, rfl, rfl⟩ := hp; exact ⟨p1, rfl, rfl⟩
            | gh _ => cases hg
            | _ => simp [PL.erase] at hp
          clear hp
          have hmem := List.mem_of_find?_eq_some hfi
          have hfb := List.find?_some hfi
          obtain ⟨oi, hoi, hri⟩ := Option.bind_eq_some_iff.1 hr
          unfold pinB at hfb
          rw [hoi] at hfb
          simp only [Bool.and_eq_true, Bool.not_eq_true'] at hfb
          obtain ⟨⟨⟨⟨h1, h2⟩, _⟩, hown⟩, hsep⟩ := hfb
          have hval := h2
          unfold valB at h2
          rw [hr] at h2
          split at h2
          · rename_i g ao hh
            cases hh
            obtain ⟨l, hl', I⟩ := S
            obtain ⟨v, st', hy, hk, I'⟩ := val_sound (K := pinK ((upL ops i rem [], .op g ao) :: ps) (awP P N ((upL ops i rem [], .op g ao) :: ps) p' K)) hri h2 haw I
            have up := upL_spec (ops := ops) i rem [] (fun j hj => by cases hj)
            have hsepi : ∀ j ∈ rem, j ≠ i → Sep ops i (upL ops i rem []) j := fun j hj hji => by
              have := List.all_eq_true.1 hsep j hj
              simp only [Bool.or_eq_true, beq_iff_eq] at this
              exact sepB_spec hoi (this.resolve_left hji)
            have hdi := (rdyB_mem hoi).1 h1
            have hnd : rem.Nodup := (List.nodup_append.1 L.nd).1
            have hlt := List.length_erase_of_mem hmem
            have hpos := List.length_pos_of_mem hmem
            have hin : ∀ j ∈ rem, j ∈ rem.erase i ∨ j = i := fun j hj => by
              by_cases hji : j = i
              · exact .inr hji
              · exact .inl ((List.mem_erase_of_ne hji).2 hj)
            rw [show f + 1 + n = f + (n + 1) by omega]
            refine ih (rem.erase i) ((i, upL ops i rem []) :: pend) ((upL ops i rem [], .op g ao) :: ps) p' (by omega) hp' (n + 1) (pd ++ [(i, upL ops i rem [])]) listed st' a w (by simp [hn]) (fun x hx => ?_) (fun x hx => ?_)
              ⟨?_, ?_, ?_, ?_, ?_, ?_, ?_, ?_, ?_⟩ (L.perm ?_) hk ⟨l ++ [(oi.dst, v)], by rw [List.map_append, List.map_append, hl']; simp [dstAt, hoi], by rw [puts_append]; exact I'⟩
            · rcases List.mem_append.1 hx with hx | hx
              · exact List.mem_cons_of_mem _ (hsub x hx)
              · rw [List.mem_singleton] at hx; rw [hx]; exact List.mem_cons_self
            · rcases List.mem_append.1 hx with hx | hx
              · obtain ⟨r, k1, k2⟩ := hps x hx; exact ⟨r, List.mem_cons_of_mem _ k1, k2⟩
              · rw [List.mem_singleton] at hx; rw [hx]; exact ⟨_, List.mem_cons_self, hr⟩
            · intro x hx j hj
              rcases List.mem_append.1 hx with hx | hx
              · exact D.sepR x hx j (List.mem_of_mem_erase hj)
              · rw [List.mem_singleton] at hx; rw [hx]; exact hsepi j (List.mem_of_mem_erase hj) (hnd.mem_erase_iff.1 hj).1
            · exact List.pairwise_append.2 ⟨D.sepP, List.pairwise_singleton _ _, fun x hx y hy => by rw [List.mem_singleton] at hy; rw [hy]; exact D.sepR x hx i hmem⟩
            · intro x hx o ho
              rcases List.mem_append.1 hx with hx | hx
              · exact D.own x hx o ho
              · rw [List.mem_singleton] at hx; rw [hx] at ho; rw [hoi] at ho; cases ho; exact usesB_false hown
            · intro x hx j hj
              rcases List.mem_append.1 hx with hx | hx
              · exact D.up x hx j hj
              · rw [List.mem_singleton] at hx; rw [hx] at hj ⊢; exact up.1 j hj
            · intro x hx j hj
              have key : ∀ j, j ∈ rem ++ pd.map Prod.fst → j ∈ rem.erase i ++ (pd ++ [(i, upL ops i rem [])]).map Prod.fst := fun j hj => by
                rcases List.mem_append.1 hj with hj | hj
                · rcases hin j hj with h | h
                  · exact List.mem_append_left _ h
                  · rw [h]; simp
                · rw [List.map_append]; exact List.mem_append_right _ (List.mem_append_left _ hj)
              rcases List.mem_append.1 hx with hx | hx
              · exact key j (D.un x hx j hj)
              · rw [List.mem_singleton] at hx; rw [hx] at hj
                exact key j (List.mem_append_left _ ((up.2 j hj).resolve_left (fun h => by cases h)))
            · intro x hx
              rcases List.mem_append.1 hx with hx | hx
              · exact D.val x hx
              · rw [List.mem_singleton] at hx; rw [hx]; exact hval
            · intro x hx
              have hsubr : ∀ {k : Nat} {o : Oper}, ops[k]? = some o → rdyB ops rem k = true → rdyB ops (rem.erase i) k = true := fun ho hh => by
                rw [rdyB_mem ho] at *
                exact fun d hd => ⟨(hh d hd).1, fun h => (hh d hd).2 (List.mem_of_mem_erase h)⟩
              rcases List.mem_append.1 hx with hx | hx
              · have := D.rdR x hx
                have hlt := L.lt x.1 (List.mem_append_right _ (List.mem_map.2 ⟨x, hx, rfl⟩))
                exact hsubr (o := ops[x.1]) (by simp [hlt]) this
              · rw [List.mem_singleton] at hx; rw [hx]; exact hsubr hoi h1
            · refine List.pairwise_append.2 ⟨D.rdP, List.pairwise_singleton _ _, fun x hx y hy o ho => ?_⟩
              rw [List.mem_singleton] at hy; rw [hy]
              exact fun h => ((rdyB_mem ho).1 (D.rdR x hx) i h).2 hmem
            · intro x hx o ho
              rcases List.mem_append.1 hx with hx | hx
              · exact D.self x hx o ho
              · rw [List.mem_singleton] at hx; rw [hx] at ho ⊢; rw [hoi] at ho; cases ho; exact fun h => (hdi i h).2 hmem
            · rw [List.map_append, ← List.append_assoc]
              refine ((List.perm_cons_erase hmem).append_right _).trans ?_
              simpa using (List.perm_append_comm (l₁ := [i]) (l₂ := rem.erase i ++ pd.map Prod.fst))
          · cases h2
        · cases hp
      · -- one of several
        split at hp
        · cases hp
        · rename_i hne
          have hall := alts_spec (K := K) (ps := ps) hp h
          rw [show f + 1 + n = (f + n) + 1 by omega]
          refine ⟨fun hr => ?_, fun j hj => ?_⟩
          · exfalso
            cases pd with
            | cons x pd => have := D.head L; rw [hr] at this; cases this
            | nil =>
              apply hne
              cases hfl : rem.filter (rdyB ops rem) with
              | nil => rfl
              | cons j l =>
                have hj : j ∈ rem.filter (rdyB ops rem) := by rw [hfl]; exact List.mem_cons_self
                have := (L.rdy (j := j)).2 (by simpa using hj)
                rw [hr] at this; cases this
          · have hj' := (L.rdy).1 hj
            rcases List.mem_append.1 hj'.1 with hjr | hjr
            · -- of what the plan has before it
              have hlt := L.lt j hj'.1
              have hoj0 : ops[j]? = some ops[j] := by simp [hlt]
              have hrj0 : rdyB ops rem j = true := (rdyB_mem hoj0).2 fun d hd => by
                obtain ⟨k1, k2⟩ := (rdyB_mem hoj0).1 hj'.2 d hd
                exact ⟨k1, fun h => k2 (List.mem_append_left _ h)⟩
              obtain ⟨r, q, st1, hw1, h1, h2, h3⟩ := hall j (by simp [hjr, hrj0])
              obtain ⟨oj, hoj, hrj⟩ := Option.bind_eq_some_iff.1 h1
              obtain ⟨l, hl', I⟩ := S
              replace I := hw1 _ _ _ I
              have hnin : ∀ x ∈ pd, j ∉ x.2 := fun x hx => D.notin L hx hj
              have next : ∀ st' a' w', pinK (pinsL (altJ pend j) ps) (awP P N (pinsL (altJ pend j) ps) q K) st' → Inv B N st' (puts l a') w' → gAny P .any ops (clsB P N ops) Q (f + n) (listed.setIfInBounds j true) a' w' := fun st' a' w' hk I' =>
                ih (rem.erase j) (pendL pend j) _ q (by have := List.length_erase_of_mem hjr; omega) h2 n pd _ st' a' w' hn (fun x hx => by
                    unfold pendL
                    exact List.mem_filter.2 ⟨hsub x hx, by simpa using hnin x hx⟩) (fun x hx => by
                    obtain ⟨r, k1, k2⟩ := hps x hx
                    refine ⟨r, ?_, k2⟩
                    unfold altJ
                    split
                    · exact k1
                    · exact mem_pinsF (by simpa using hnin x hx) k1) (D.sub (fun k hk => List.mem_of_mem_erase hk) fun x hx k hk => by
                    have hkne : k ≠ j := fun e => hnin x hx (e ▸ hk)
                    rcases List.mem_append.1 (D.un x hx k hk) with h | h
                    · exact List.mem_append_left _ ((List.mem_erase_of_ne hkne).2 h)
                    · exact List.mem_append_right _ h) (by
                    have := L.take (List.mem_append_left (pd.map Prod.fst) hjr)
                    rwa [List.erase_append_left _ hjr] at this) hk ⟨l, hl', I'⟩
              have key : gOp P ops (clsB P N ops) Q j (fun a' w' => ∃ st', pinK (pinsL (altJ pend j) ps) (awP P N (pinsL (altJ pend j) ps) q K) st' ∧ Inv B N st' a' w') (puts l a) w := by
                cases hc : clsB P N ops j with
                | true =>
                  have hc' := hc
                  unfold clsB at hc'
                  rw [h1] at hc'
                  split at hc'
                  · rename_i g ao hh
                    have hrr : r = .op g ao := by
                      cases r <;> first | (cases hh; done) | (cases hh; rfl) | (cases hh; cases hc')
                    subst hrr
                    obtain ⟨h4, h5⟩ := gr_sound (K := pinK (pinsL (altJ pend j) ps) (awP P N (pinsL (altJ pend j) ps) q K)) hrj hc' h3 I
                    unfold gOp
                    simp only [hoj, hc]
                    split
                    · rename_i hw
                      simp only [if_true]
                      obtain ⟨v, w', h6, h7, st', hk, I'⟩ := h4 hw
                      exact ⟨v, w', h6, h7, st', hk, I'⟩
                    · rename_i hw
                      obtain ⟨st', hk, I'⟩ := h5 (by simpa using hw)
                      exact ⟨st', hk, I'⟩
                  · cases hc'
                | false =>
                  obtain ⟨h4, h5⟩ := one_soundv (K := pinK (pinsL (altJ pend j) ps) (awP P N (pinsL (altJ pend j) ps) q K)) (Q := Q) hrj h3 I
                  unfold gOp
                  simp only [hoj, hc]
                  split
                  · rename_i hw
                    simp only [Bool.false_eq_true, if_false]
                    exact h4 hw
                  · rename_i hw
                    obtain ⟨st', hk, I'⟩ := h5 (by simpa using hw)
                    exact ⟨st', hk, I'⟩
              refine gOp_mono (fun a' w' ⟨st', hk, I'⟩ => next st' a' w' hk I') (gOp_puts hoj (fun cs b => hsel j oj cs b hoj) hQ l a w (fun q hq e he => ?_) key)
              obtain ⟨x, hx, hxe⟩ := Sim.mem hl' hq
              rw [hxe] at he
              unfold dstAt at he
              obtain ⟨ox, hox, hd⟩ := Option.bind_eq_some_iff.1 he
              have := D.sepR x hx j hjr ox oj hox hoj
              exact ⟨(this.2.2.resolve_left (hnin x hx)) e hd, this.2.1 e hd⟩
            · -- of what waits with a check
              obtain ⟨x, hx, rfl⟩ := List.mem_map.1 hjr
              obtain ⟨p1, p2, rfl⟩ := List.append_of_mem hx
              have hm : ∀ y, y ∈ p1 ++ p2 → y ∈ p1 ++ x :: p2 := fun y hy => by
                rcases List.mem_append.1 hy with h | h
                · exact List.mem_append_left _ h
                · exact List.mem_append_right _ (List.mem_cons_of_mem _ h)
              obtain ⟨m, rfl⟩ : ∃ m, n = m + 1 := ⟨n - 1, by simp at hn; omega⟩
              rw [show f + (m + 1) = f + 1 + m by omega]
              refine pend_step hns D L hj (hps x hx) hpin S fun a' S' => ?_
              refine ihn m (by omega) (p1 ++ p2) _ a' w (by simp at hn ⊢; omega) (fun y hy => hsub y (hm y hy)) (fun y hy => hps y (hm y hy)) (D.erase fun y hy => D.notin L hy hj) ?_ S'
              · rw [List.map_append, List.map_cons, ← List.append_assoc] at L
                rw [List.map_append, ← List.append_assoc]
                exact L.mid
end
end Go.AK


/- Code, walked: regions in their order, branches, blocks, loops. Conditions: none. -/
set_option linter.unusedSimpArgs false
set_option linter.unusedVariables false
namespace Go.AK
open Go

inductive AC where
  | skip
  | ret
  | reg (l : List RI)
  | regD (p : PL) (ts : List Tmp)
  | seq (a b : AC)
  | cond (c : Operand) (a b : AC)
  | block (id : Nat) (b : AC)
  | loop (b : AC)
  | exit (id : Nat)
  | gh (b : AC)
  | ga (b : AC)

def AC.erase : AC → AC
  | .reg l => .reg (l.filter RI.real)
  | .regD p _ => .regD p.erase []
  | .seq a b => .seq a.erase b.erase
  | .cond c a b => .cond c a.erase b.erase
  | .block id b => .block id b.erase
  | .loop b => .loop b.erase
  | .gh b => b.erase
  | .ga b => b.erase
  | x => x

def compC (P : Program) (N : Nat) : AC → Code → Option AC
  | .skip, c => match c with
    | .skip => some .skip
    | _ => none
  | .ret, c => match c with
    | .ret => some .ret
    | _ => none
  | .reg _, c => match c with
    | .region _ ops false => (compOps P N ops none ops.toList).map .reg
    | _ => none
  | .regD p _, c => match c with
    | .region _ ops true => if P.follows .mixedOrders = true ∧ Region.noSelect ops = true then (planOf P N ops p.pz ops.size (List.range ops.size) []).map (.regD · []) else none
    | _ => none
  | .seq h h', c => match c with
    | .seq a b => match compC P N h a, compC P N h' b with
      | some x, some y => some (.seq x y)
      | _, _ => none
    | _ => none
  | .cond _ h h', c => match c with
    | .cond o a b => match compC P N h a, compC P N h' b with
      | some x, some y => some (.cond o x y)
      | _, _ => none
    | _ => none
  | .block _ h, c => match c with
    | .block id b => (compC P N h b).map (.block id)
    | _ => none
  | .loop h, c => match c with
    | .loop b => (compC P N h b).map .loop
    | _ => none
  | .exit _, c => match c with
    | .exit id => some (.exit id)
    | _ => none
  | .gh h, c => compC P N h c
  | .ga h, c => compC P N h c

def thenK (p : St → Prop) (K : AE → St → Prop) : AE → St → Prop
  | .nrm, st => p st
  | e, st => K e st
def blockK (id : Nat) (K : AE → St → Prop) : AE → St → Prop
  | .exit i, st => if i = id then K .nrm st else K (.exit i) st
  | e, st => K e st
def condK (av : AV) (p q : St → Prop) (st : St) : Prop := ∃ t, av = .c (.sc (.bool t)) ∧ (t = true → p st) ∧ (t = false → q st)
def gaK (N : Nat) (K : AE → St → Prop) : AE → St → Prop
  | .nrm, st => ∃ st', Weak N st st' ∧ K .nrm st'
  | e, st => K e st
def ER : Exit → AE → Prop
  | .normal, .nrm => True
  | .ret, .ret => True
  | .exit i, .exit j => i = j
  | _, _ => False
def Post (B : Base) (N : Nat) (K : AE → St → Prop) : Exit → Act → World → Prop := fun e a w => ∃ ae st, ER e ae ∧ K ae st ∧ Inv B N st a w
def LoopW (P : Program) (c : Code) (Q : Exit → Act → World → Prop) (a : Act) (w : World) : Prop := ∀ (b : Frame) (k : List Item) (cs : List Frame),
  ∃ e a' w', Q e a' w' ∧ Arrives P (lone (b.at a (.code c :: .inLoop c :: k)) cs w) b k cs e a' w'
/-- A loop in a state. -/
def loopS (P : Program) (N : Nat) (b : AC) (K : AE → St → Prop) (st : St) : Prop := ∀ (B : Base) (c : Code), compC P N b c = some b.erase → ∀ (a : Act) (w : World), Inv B N st a w → LoopW P c (Post B N K) a w

def awc (P : Program) (N : Nat) : AC → (AE → St → Prop) → St → Prop
  | .skip, K, st => K .nrm st
  | .ret, K, st => K .ret st
  | .exit i, K, st => K (.exit i) st
  | .reg l, K, st => awOps P N l (K .nrm) st
  | .regD p ts, K, st => awP P N [] p (fun st => K .nrm (st.keep ts)) st
  | .seq a b, K, st => awc P N a (thenK (awc P N b K) K) st
  | .cond c a b, K, st => condK (evo st.t c) (awc P N a K) (awc P N b K) st
  | .block id b, K, st => awc P N b (blockK id K) st
  | .loop b, K, st => loopS P N b K st
  | .gh b, K, st => ∃ st', Weak N st st' ∧ awc P N b K st'
  | .ga b, K, st => awc P N b (gaK N K) st

/-! ### the walk is sound -/
section
variable {P : Program} {B : Base} {N : Nat}

theorem Inv.drew {st : St} {a : Act} {w : World} (I : Inv B N st a w) : Inv B N st a { w with drawn := w.drawn + 1 } := by
  obtain ⟨X, I⟩ := I
  exact ⟨X, ⟨⟨I.rel.cell, I.rel.room, I.rel.apart, I.rel.clean, I.rel.cleanD⟩, I.tmps, I.size, I.defers, I.fr.trans I.foot (Fr.drew X st.s w), I.foot, I.keep, I.gb⟩⟩
theorem LR.init (ops : Array Oper) : LR ops (Array.replicate ops.size false) (List.range ops.size) where
  size := by simp
  lt := fun j hj => List.mem_range.1 hj
  nd := List.nodup_range
  eq := fun j hj => by simp [hj]
theorem regD_sound {id : Nat} {ops : Array Oper} {p : PL} {pz : List Tmp} {K : AE → St → Prop} {ts : List Tmp} {st : St} {a : Act} {w : World} (hm : P.follows .mixedOrders = true) (hn : Region.noSelect ops = true)
    (hp : planOf P N ops pz ops.size (List.range ops.size) [] = some p.erase) (h : awP P N [] p (fun st => K .nrm (st.keep ts)) st) (I : Inv B N st a w) : (Code.region id ops true).wp P (Post B N K) a w := by
  have hg := plan_sound (B := B) (K := fun st => K .nrm (st.keep ts)) (Q := Post B N K) hn (fun c a w hh => by obtain ⟨ae, st, he, _⟩ := hh; cases ae <;> exact he) (fun st a w hk I => ⟨.nrm, _, trivial, hk, I.keep ts⟩)
    ops.size (List.range ops.size) [] [] p (by simp) hp 0 [] _ st a _ rfl (fun _ h => by cases h) (fun _ h => by cases h)
    ⟨fun _ h => by (cases h), .nil, fun _ h => by (cases h), fun _ h => by (cases h), fun _ h => by (cases h), fun _ h => by (cases h), fun _ h => by (cases h), .nil, fun _ h => by (cases h)⟩ (by simpa using LR.init ops) h ⟨[], rfl, I.drew⟩
  exact wp_region_any hm (wpAny_of_gAny _ _ _ _ hg)

theorem awc_sound : ∀ (ac : AC) (c : Code) (K : AE → St → Prop) (st : St) (a : Act) (w : World), compC P N ac c = some ac.erase → awc P N ac K st → Inv B N st a w → c.wp P (Post B N K) a w
  | .skip, c, K, st, a, w, hc, h, I => by
    cases c <;> simp only [compC, reduceCtorEq] at hc
    exact wp_skip ⟨.nrm, st, trivial, h, I⟩
  | .ret, c, K, st, a, w, hc, h, I => by
    cases c <;> simp only [compC, reduceCtorEq] at hc
    exact wp_ret ⟨.ret, st, trivial, h, I⟩
  | .exit id, c, K, st, a, w, hc, h, I => by
    cases c with
    | exit id' => simp only [compC, AC.erase] at hc; cases hc; exact wp_exit ⟨.exit id, st, rfl, h, I⟩
    | _ => simp only [compC, reduceCtorEq] at hc
  | .reg l, c, K, st, a, w, hc, h, I => by
    cases c with
    | region id ops dr =>
      cases dr with
      | true => simp only [compC, reduceCtorEq] at hc
      | false =>
        simp only [compC, AC.erase] at hc
        obtain ⟨l', h1, h2⟩ := Option.map_eq_some_iff.1 hc
        cases h2
        refine wp_region ?_
        have := awOps_sound (B := B) ops (Post B N K) l 0 none ops.toList (K .nrm) st a w h1 (fun j => by simp) h I (fun st a w hk I => ⟨.nrm, st, trivial, hk, I⟩)
        rw [List.range_eq_range']
        simpa using this
    | _ => simp only [compC, reduceCtorEq] at hc
  | .regD p ts, c, K, st, a, w, hc, h, I => by
    cases c with
    | region id ops dr =>
      cases dr with
      | false => simp only [compC, reduceCtorEq] at hc
      | true =>
        simp only [compC, AC.erase] at hc
        split at hc
        · rename_i hcc
          obtain ⟨p', h1, h2⟩ := Option.map_eq_some_iff.1 hc
          cases h2
          exact regD_sound hcc.1 hcc.2 h1 h I
        · cases hc
    | _ => simp only [compC, reduceCtorEq] at hc
  | .seq x y, c, K, st, a, w, hc, h, I => by
    cases c with
    | seq c1 c2 =>
      simp only [compC, AC.erase] at hc
      split at hc
      · rename_i x' y' h1 h2
        simp only [Option.some.injEq, AC.seq.injEq] at hc
        obtain ⟨rfl, rfl⟩ := hc
        refine wp_seq (wp_mono (awc_sound x c1 _ st a w h1 h I) fun e a w ⟨ae, st', he, hk, I'⟩ => ?_)
        cases e <;> cases ae <;> simp only [ER] at he
        · exact awc_sound y c2 K st' a w h2 hk I'
        · exact ⟨.exit _, st', (show ER (.exit _) (.exit _) from he), hk, I'⟩
        · exact ⟨.ret, st', trivial, hk, I'⟩
      · cases hc
    | _ => simp only [compC, reduceCtorEq] at hc
  | .cond o x y, c, K, st, a, w, hc, h, I => by
    cases c with
    | cond o' c1 c2 =>
      simp only [compC, AC.erase] at hc
      split at hc
      · rename_i x' y' h1 h2
        simp only [Option.some.injEq, AC.cond.injEq] at hc
        obtain ⟨rfl, rfl, rfl⟩ := hc
        obtain ⟨t, ht, hx, hy⟩ := h
        obtain ⟨X, IX⟩ := I
        have hv := IX.sc ht
        cases t with
        | true => exact wp_cond_true hv (awc_sound x c1 K st a w h1 (hx rfl) ⟨X, IX⟩)
        | false => exact wp_cond_false hv (awc_sound y c2 K st a w h2 (hy rfl) ⟨X, IX⟩)
      · cases hc
    | _ => simp only [compC, reduceCtorEq] at hc
  | .block id x, c, K, st, a, w, hc, h, I => by
    cases c with
    | block id' c1 =>
      simp only [compC, AC.erase] at hc
      obtain ⟨x', h1, h2⟩ := Option.map_eq_some_iff.1 hc
      cases h2
      refine wp_block (wp_mono (awc_sound x c1 _ st a w h1 h I) fun e a w ⟨ae, st', he, hk, I'⟩ => ?_)
      cases e <;> cases ae <;> simp only [ER] at he
      · exact ⟨.nrm, st', trivial, hk, I'⟩
      · subst he
        simp only [Exit.inBlock, blockK] at hk ⊢
        split at hk
        · rename_i hh; rw [if_pos hh]; exact ⟨.nrm, st', trivial, hk, I'⟩
        · rename_i hh; rw [if_neg hh]; exact ⟨.exit _, st', (show ER (.exit _) (.exit _) from rfl), hk, I'⟩
      · exact ⟨.ret, st', trivial, hk, I'⟩
    | _ => simp only [compC, reduceCtorEq] at hc
  | .loop x, c, K, st, a, w, hc, h, I => by
    cases c with
    | loop c1 =>
      simp only [compC, AC.erase] at hc
      obtain ⟨x', h1, h2⟩ := Option.map_eq_some_iff.1 hc
      cases h2
      intro b k cs
      obtain ⟨e, a', w', hq, harr⟩ := h B c1 h1 a w I b k cs
      exact ⟨e, a', w', hq, .of_steps (.one step_loop) harr⟩
    | _ => simp only [compC, reduceCtorEq] at hc
  | .gh x, c, K, st, a, w, hc, ⟨st', hw, h⟩, I => awc_sound x c K st' a w hc h (hw _ _ _ I)
  | .ga x, c, K, st, a, w, hc, h, I => by
    refine wp_mono (awc_sound x c _ st a w hc h I) ?_
    rintro e a' w' ⟨ae, st', he, hk, I'⟩
    cases e <;> cases ae <;> simp only [ER] at he
    · obtain ⟨st'', hw, hk⟩ := hk; exact ⟨.nrm, st'', trivial, hk, hw _ _ _ I'⟩
    · exact ⟨.exit _, st', (show ER (.exit _) (.exit _) from he), hk, I'⟩
    · exact ⟨.ret, st', trivial, hk, I'⟩
/-- A loop, unrolled. -/
theorem loop_unroll {b : AC} {K : AE → St → Prop} {st : St} (h : awc P N b (thenK (loopS P N b K) K) st) : loopS P N b K st := by
  intro B c hc a w I fb k cs
  obtain ⟨e, a1, w1, ⟨ae, st', he, hk, I'⟩, harr⟩ := awc_sound b c _ st a w hc h I fb (.inLoop c :: k) cs
  cases e <;> cases ae <;> simp only [ER] at he
  · obtain ⟨e2, a2, w2, hq2, harr2⟩ := hk B c hc a1 w1 I' fb k cs
    exact ⟨e2, a2, w2, hq2, .of_steps (Steps.trans harr (.one step_inLoop)) harr2⟩
  · exact ⟨_, a1, w1, ⟨.exit _, st', (show ER (.exit _) (.exit _) from he), hk, I'⟩, .pass (x := .inLoop c) rfl (fun _ _ => .inl (by simp)) harr⟩
  · exact ⟨Exit.ret, a1, w1, ⟨.ret, st', trivial, hk, I'⟩, .pass (x := .inLoop c) rfl (fun _ _ => .inl (by simp)) harr⟩
end
end Go.AK


/- Names turned: a map of the places that cells name; segments of blocks. Conditions: none. -/
set_option linter.unusedSimpArgs false
set_option linter.unusedVariables false
namespace Go.AK
open Go

/-- A map of names: of slices' places, of pointers' places. -/
structure Nm where
  r : Key → List Nat → Nat → Option (Key × List Nat × Nat)
  p : Key → List Nat → Nat → Option (Key × List Nat × Nat)

@[simp] def reR (n : Nat) : Option (Key × List Nat × Nat) → Cell
  | some (k, p, o) => .ref k p o n
  | none => .dead
@[simp] def reP : Option (Key × List Nat × Nat) → Cell
  | some (k, p, o) => .ptr k p o
  | none => .dead
def mapN1 (f : Nm) : Cell → Cell
  | .ref k p o n => reR n (f.r k p o)
  | .ptr k p c => reP (f.p k p c)
  | x => x
def mapN (f : Nm) : Cell → Cell
  | .fn g caps => .fn g (caps.map (mapN1 f))
  | .ifc t c => .ifc t (mapN1 f c)
  | x => mapN1 f x
def mapNA (f : Nm) : AV → AV
  | .c x => .c (mapN f x)
  | .g xs => .g (xs.map (mapN f))
  | .tup l => .tup (l.map fun p => (p.1, p.2.map (mapN f)))

/-- A slice's name may be turned so. -/
def OKr (X : EM) (s : Sto) (X' : EM) (s' : Sto) (k : Key) (p : List Nat) (o : Nat) (k' : Key) (p' : List Nat) (o' : Nat) : Prop :=
  ∀ e cs, s.blkS k p = some (e, cs) → ∃ cs', s'.blkS k' p' = some (e, cs') ∧ (∀ m, o + m ≤ cs.length → o' + m ≤ cs'.length) ∧ (X k p).at o = (X' k' p').at o' ∧ ∀ m, o + m ≤ (X k p).cap → o' + m ≤ (X' k' p').cap
def OKp (X : EM) (s : Sto) (X' : EM) (s' : Sto) (k : Key) (p : List Nat) (o : Nat) (k' : Key) (p' : List Nat) (o' : Nat) : Prop :=
  ∀ e cs, s.blkS k p = some (e, cs) → ∃ cs', s'.blkS k' p' = some (e, cs') ∧ (o ≤ cs.length → o' ≤ cs'.length) ∧ (X k p).at o = (X' k' p').at o'
theorem OKr.p {X X' : EM} {s s' : Sto} {k k' : Key} {p p' : List Nat} {o o' : Nat} (h : OKr X s X' s' k p o k' p' o') : OKp X s X' s' k p o k' p' o' := fun e cs hb => by
  obtain ⟨cs', h1, h2, h3, _⟩ := h e cs hb
  exact ⟨cs', h1, fun h => h2 0 h, h3⟩
theorem Tr.okr {X X' : EM} {s s' : Sto} {k k' : Key} {p p' : List Nat} (h : Tr X s k p X' s' k' p') (o : Nat) : OKr X s X' s' k p o k' p' o := fun e cs hb => by
  obtain ⟨cs', h1, h2, h3⟩ := h e cs hb
  exact ⟨cs', h1, fun m hm => by omega, by rw [h3], fun m hm => by rw [h3]; exact hm⟩

structure Nm.ok (f : Nm) (X : EM) (s : Sto) (X' : EM) (s' : Sto) : Prop where
  r : ∀ k p o k' p' o', f.r k p o = some (k', p', o') → OKr X s X' s' k p o k' p' o'
  p : ∀ k p o k' p' o', f.p k p o = some (k', p', o') → OKp X s X' s' k p o k' p' o'

section
variable {X X' : EM} {s s' : Sto} {f : Nm}
theorem VC1_map (h : f.ok X s X' s') {x : Cell} {v : Value} (hv : VC1 X s x v) : VC1 X' s' (mapN1 f x) v := by
  cases x with
  | ref k p off n =>
    show VC1 X' s' (reR n (f.r k p off)) v
    cases hf : f.r k p off with
    | none => trivial
    | some t =>
      obtain ⟨k', p', o'⟩ := t
      obtain ⟨e, cs, cap, a, hb, hl, hn, rfl, hc⟩ := hv
      obtain ⟨cs', h1, h2, h3, h4⟩ := h.r _ _ _ _ _ _ hf e cs hb
      exact ⟨e, cs', cap, a, h1, h2 _ hl, hn, rfl, hc.imp id fun ⟨ha, hb⟩ => ⟨by rw [ha, h3], h4 _ hb⟩⟩
  | ptr k p c =>
    show VC1 X' s' (reP (f.p k p c)) v
    cases hf : f.p k p c with
    | none => trivial
    | some t =>
      obtain ⟨k', p', o'⟩ := t
      obtain ⟨e, cs, hb, hl, rfl⟩ := hv
      obtain ⟨cs', h1, h2, h3⟩ := h.p _ _ _ _ _ _ hf e cs hb
      exact ⟨e, cs', h1, h2 hl, by rw [h3]⟩
  | sc u => exact hv
  | dead => trivial
  | own e n cs => exact hv
  | obx cs => exact hv
  | fn f caps => exact hv
  | ifc t c => exact hv
theorem VC_of_1 {x : Cell} {v : Value} (hv : VC1 X s x v) : VC X s x v := by cases x <;> first | exact hv | exact hv.elim
theorem VC_map (h : f.ok X s X' s') {x : Cell} {v : Value} (hv : VC X s x v) : VC X' s' (mapN f x) v := by
  cases x with
  | fn g caps =>
    obtain ⟨vs, rfl, hf⟩ := hv
    exact ⟨vs, rfl, all2.imp (mapN1 f) (fun _ _ _ h1 => VC1_map h h1) hf⟩
  | ifc t c => obtain ⟨u, rfl, hu⟩ := hv; exact ⟨u, rfl, VC1_map h hu⟩
  | sc u => exact hv
  | ref k p off n =>
    show VC X' s' (mapN1 f (.ref k p off n)) v
    exact VC_of_1 (VC1_map h hv)
  | ptr k p c =>
    show VC X' s' (mapN1 f (.ptr k p c)) v
    exact VC_of_1 (VC1_map h hv)
  | dead => trivial
  | own e n cs => exact hv
  | obx cs => exact hv
theorem VA_mapN (h : f.ok X s X' s') {x : AV} {v : Value} (hv : VA X s x v) : VA X' s' (mapNA f x) v := by
  cases x with
  | c x => exact VC_map h hv
  | g xs => obtain ⟨vs, rfl, hf⟩ := hv; exact ⟨vs, rfl, all2.imp _ (fun _ _ _ h1 => VC_map h h1) hf⟩
  | tup l =>
    obtain ⟨us, rfl, hf⟩ := hv
    refine ⟨us, rfl, all2.imp _ (fun a b _ h1 => ?_) hf⟩
    obtain ⟨b1, xs⟩ := a
    cases b1 with
    | true => obtain ⟨vs, rfl, hg⟩ := h1; exact ⟨vs, rfl, all2.imp _ (fun _ _ _ h1 => VC_map h h1) hg⟩
    | false => obtain ⟨x, rfl, hx⟩ := h1; exact ⟨mapN f x, rfl, VC_map h hx⟩
end

theorem mapN_cln {f : Nm} {x : Cell} (h : cln x = true) : mapN f x = x := by
  cases x with
  | ifc t c => cases c <;> simp_all [cln, mapN, mapN1]
  | fn g caps => cases caps <;> simp_all [cln, mapN]
  | _ => simp_all [cln, mapN, mapN1]
theorem map_mapN_cln {f : Nm} {cs : List Cell} (h : ∀ x ∈ cs, cln x = true) : cs.map (mapN f) = cs := by
  induction cs with
  | nil => rfl
  | cons a l ih => rw [List.map_cons, mapN_cln (h a (by simp)), ih fun x hx => h x (by simp [hx])]
theorem reR_sub (n : Nat) (o : Option (Key × List Nat × Nat)) : sub (some (reR n o)) = none := by cases o <;> rfl
theorem reP_sub (o : Option (Key × List Nat × Nat)) : sub (some (reP o)) = none := by cases o <;> rfl
theorem sub_mapN (f : Nm) (x : Cell) : sub (some (mapN f x)) = sub (some x) := by
  cases x with
  | ref k p o n => show sub (some (reR n (f.r k p o))) = _; rw [reR_sub]; rfl
  | ptr k p c => show sub (some (reP (f.p k p c))) = _; rw [reP_sub]; rfl
  | _ => rfl
theorem sub_mapN' (f : Nm) (x : Option Cell) : sub (x.map (mapN f)) = sub x := by
  cases x with
  | none => rfl
  | some x => exact sub_mapN f x
theorem reR_sh (n : Nat) (o : Option (Key × List Nat × Nat)) : sh (reR n o) = reR n o := by cases o <;> rfl
theorem reP_sh (o : Option (Key × List Nat × Nat)) : sh (reP o) = reP o := by cases o <;> rfl
theorem sh_mapN (f : Nm) (x : Cell) : sh (mapN f x) = mapN f (sh x) := by
  cases x with
  | ref k p o n => show sh (reR n (f.r k p o)) = _; rw [reR_sh]; rfl
  | ptr k p c => show sh (reP (f.p k p c)) = _; rw [reP_sh]; rfl
  | _ => rfl
theorem cln_mapN {f : Nm} {x : Cell} (h : cln x = true) : cln (mapN f x) = true := by rw [mapN_cln h]; exact h
theorem HC_map {X X' : EM} {s s' : Sto} {f : Nm} (hf : f.ok X s X' s') {k k' : Key} {p p' : List Nat} {i i' : Nat} {x : Cell} {v : Value} (hv : HC X s k p i x v)
    (ho : (sub (some x)).isSome → Tr X s k (p ++ [i]) X' s' k' (p' ++ [i'])) : HC X' s' k' p' i' (mapN f x) v := by
  cases hs : sub (some x) with
  | none => exact HC_leaf (by rw [sub_mapN, hs]) (VC_map hf (HC_leaf' hs hv))
  | some b =>
    cases x with
    | own e n cs => exact HC_tr hv ho (fun h => h)
    | obx cs => exact HC_tr hv ho (fun h => h)
    | _ => simp at hs

/-- walks through mapped cells -/
theorem walkS_map_cons (f : Nm) (e : Nat) (cs : List Cell) (i : Nat) (r : List Nat) : walkS (e, cs.map (mapN f)) (i :: r) = walkS (e, cs) (i :: r) := by
  simp only [walkS, walk, List.getElem?_map, sub_mapN']
theorem walkS_map_nil (f : Nm) (e : Nat) (cs : List Cell) : walkS (e, cs.map (mapN f)) [] = some (e, (cs.map sh).map (mapN f)) := by
  simp only [walkS, walk, Option.map_some, shB, List.map_map]
  congr 2
  apply List.map_congr_left
  intro x _
  exact sh_mapN f x

end Go.AK


/- Blocks brought before the eye: a store of its own, out of places of another. Conditions: none. -/
set_option linter.unusedSimpArgs false
set_option linter.unusedVariables false
namespace Go.AK
open Go

/-- A place, or a stretch of the block there, and how it is to be seen. -/
structure Plc where
  k : Key
  p : List Nat
  rng : Option (Nat × Nat)
  kd : Kind

@[simp] def shOf : Option (Nat × Nat) → Nat
  | some (a, _) => a
  | none => 0
@[simp] def inR : Option (Nat × Nat) → Nat → Bool
  | some (a, l), i => decide (a ≤ i) && decide (i < a + l)
  | none, _ => true
@[simp] def seg (rng : Option (Nat × Nat)) (cs : List Cell) : List Cell := match rng with
  | some (a, l) => (cs.drop a).take l
  | none => cs
@[simp] def fits (rng : Option (Nat × Nat)) (n : Nat) : Bool := match rng with
  | some (a, l) => decide (a + l ≤ n)
  | none => true

abbrev Pls := List (Key × Plc)
@[simp] def Pls.get : Pls → Key → Option Plc
  | [], _ => none
  | (k, P) :: r, K => if k = K then some P else Pls.get r K

/-- A place of the other store, as one of this. -/
def fwdQ (P : Plc) : List Nat → Option (List Nat)
  | i :: r => if inR P.rng i then some ((i - shOf P.rng) :: r) else none
  | [] => match P.rng with
    | none => some []
    | some _ => none
def fwd1 (P : Plc) (k : Key) (p : List Nat) : Option (List Nat) := if P.k = k then (strip P.p p).bind (fwdQ P) else none
def fwdR : Pls → Key → List Nat → Option (Key × List Nat)
  | [], _, _ => none
  | (K, P) :: r, k, p => match fwd1 P k p with
    | some q => some (K, q)
    | none => fwdR r k p
def isAt (P : Plc) (k : Key) (p : List Nat) : Bool := decide (P.k = k) && (match strip P.p p with
  | some [] => true
  | _ => false)
def fwdP : Pls → Key → List Nat → Nat → Option (Key × List Nat × Nat)
  | [], _, _, _ => none
  | (K, P) :: r, k, p, c => match fwd1 P k p with
    | some q => some (K, q, c)
    | none => if isAt P k p && inR P.rng c then some (K, [], c - shOf P.rng) else fwdP r k p c
def fwd (pl : Pls) : Nm := ⟨fun k p o => (fwdR pl k p).map fun (K, q) => (K, q, o), fwdP pl⟩

/-- two places that do not lap -/
def djR : Option (Nat × Nat) → Option (Nat × Nat) → Bool
  | some (a, l), some (a', l') => decide (a + l ≤ a') || decide (a' + l' ≤ a)
  | _, _ => false
def outR : Option (Nat × Nat) → Nat → Bool
  | some (a, l), i => decide (i < a) || decide (a + l ≤ i)
  | none, _ => false
def dj (P P' : Plc) : Bool := if P.k = P'.k then (match strip P.p P'.p with
    | some [] => djR P.rng P'.rng
    | some (i :: _) => outR P.rng i
    | none => match strip P'.p P.p with
      | some (i :: _) => outR P'.rng i
      | some [] => false
      | none => true) else true
def indep : Pls → Bool
  | [] => true
  | (K, P) :: r => r.all (fun x => decide (x.1 ≠ K) && dj P x.2) && indep r

/-- One block seen. -/
def focR (s : Sto) (f : Nm) (P : Plc) : Option Root := match s.get P.k with
  | none => none
  | some R => match walk (R.e, R.cs) P.p with
    | none => none
    | some (e, cs) =>
      if fits P.rng cs.length && (decide (P.kd = .fz) || decide (R.kd ≠ .fz)) then
        (if P.p = [] ∧ R.kd = .box then
          (if P.kd = .box then some ⟨.box, e, (seg P.rng cs).map (mapN f)⟩ else if (seg P.rng cs).all cln then some ⟨P.kd, e, seg P.rng cs⟩ else none)
        else some ⟨P.kd, e, seg P.rng cs⟩)
      else none
def focL (s : Sto) (f : Nm) : Pls → Option Sto
  | [] => some []
  | (K, P) :: r => match focR s f P, focL s f r with
    | some R, some t => some ((K, R) :: t)
    | _, _ => none
def foc (s : Sto) (pl : Pls) : Option Sto := focL s (fwd pl) pl
def EM.foc (X : EM) (pl : Pls) : EM := fun K q => match pl.get K with
  | none => X K q
  | some P => match q with
    | [] => match P.rng with
      | none => X P.k P.p
      | some (a, l) => ⟨(X P.k P.p).b, (X P.k P.p).o + a, l⟩
    | i :: r => X P.k (P.p ++ (shOf P.rng + i) :: r)

theorem seg_get {rng : Option (Nat × Nat)} {cs : List Cell} (hf : fits rng cs.length = true) (i : Nat) : (seg rng cs)[i]? = if inR rng (shOf rng + i) = true then cs[shOf rng + i]? else none := by
  cases rng with
  | none => simp
  | some r =>
    obtain ⟨a, l⟩ := r
    simp only [seg, shOf, inR, List.getElem?_take, List.getElem?_drop]
    by_cases h : i < l
    · simp [h]
    · simp [h]
theorem seg_length {rng : Option (Nat × Nat)} {cs : List Cell} (hf : fits rng cs.length = true) : shOf rng + (seg rng cs).length ≤ cs.length ∧ (rng = none → (seg rng cs).length = cs.length) ∧ ∀ a l, rng = some (a, l) → (seg rng cs).length = l := by
  cases rng with
  | none => simp
  | some r =>
    obtain ⟨a, l⟩ := r
    simp at hf
    refine ⟨?_, by simp, ?_⟩
    · simp; omega
    · rintro _ _ ⟨⟩; simp; omega
theorem seg_mem {rng : Option (Nat × Nat)} {cs : List Cell} {x : Cell} (h : x ∈ seg rng cs) : x ∈ cs := by
  cases rng with
  | none => exact h
  | some r => exact List.mem_of_mem_drop (List.mem_of_mem_take h)

/-- What one block seen is. -/
structure Seen (X : EM) (s : Sto) (f : Nm) (P : Plc) (R : Root) : Prop where
  blk : ∃ cs, s.blk P.k P.p = some (R.e, cs) ∧ fits P.rng cs.length = true ∧ R.cs = (seg P.rng cs).map (mapN f)
  own : R.kd ≠ .fz → s.owned P.k
  clean : R.kd ≠ .box → ∀ x ∈ R.cs, cln x = true

theorem seen {X : EM} {s : Sto} {w : World} (H : HRel X s w) {f : Nm} {P : Plc} {R : Root} (h : focR s f P = some R) : Seen X s f P R := by
  unfold focR at h
  split at h
  · cases h
  · rename_i R0 hR0
    split at h
    · cases h
    · rename_i e cs hw
      have hb : s.blk P.k P.p = some (e, cs) := by simp only [Sto.blk, hR0, Option.bind_some, Root.blk]; exact hw
      have hcl : ¬ (P.p = [] ∧ R0.kd = .box) → ∀ x ∈ cs, cln x = true := fun hn x hx => by
        cases hp : P.p with
        | nil =>
          rw [hp] at hw
          simp at hw
          exact H.clean P.k R0 hR0 (fun hh => hn ⟨hp, hh⟩) x (by rw [hw.2]; exact hx)
        | cons i p =>
          have := H.cleanD P.k p i e (cs.map sh) (by rw [← hp]; exact Sto.blkS_of_blk hb) (sh x) (List.mem_map.2 ⟨x, hx, rfl⟩)
          rwa [cln_sh] at this
      split at h
      · rename_i hc
        simp only [Bool.and_eq_true, Bool.or_eq_true, decide_eq_true_eq] at hc
        have hown : P.kd ≠ .fz → s.owned P.k := fun hk => ⟨R0, hR0, hc.2.resolve_left hk⟩
        split at h
        · rename_i hbx
          split at h
          · rename_i hk
            cases h
            exact ⟨⟨cs, hb, hc.1, rfl⟩, fun _ => hown (by rw [hk]; decide), fun hh => absurd rfl hh⟩
          · split at h
            · rename_i hall
              cases h
              have := List.all_eq_true.1 hall
              exact ⟨⟨cs, hb, hc.1, (map_mapN_cln this).symm⟩, hown, fun _ => this⟩
            · cases h
        · rename_i hbx
          cases h
          have := hcl hbx
          have h2 : ∀ x ∈ seg P.rng cs, cln x = true := fun x hx => this x (seg_mem hx)
          exact ⟨⟨cs, hb, hc.1, (map_mapN_cln h2).symm⟩, hown, fun _ => h2⟩
      · cases h

theorem focL_get {s : Sto} {f : Nm} : ∀ {pl : Pls} {s0 : Sto}, focL s f pl = some s0 → ∀ K, (∀ R, s0.get K = some R → ∃ P, pl.get K = some P ∧ focR s f P = some R) ∧ (∀ P, pl.get K = some P → ∃ R, s0.get K = some R ∧ focR s f P = some R)
  | [], s0, h, K => by cases h; simp
  | (K1, P1) :: r, s0, h, K => by
    simp only [focL] at h
    split at h
    · rename_i R t hR ht
      cases h
      have ih := focL_get ht K
      by_cases hk : K1 = K
      · subst hk; simp only [Sto.get, if_true, Pls.get, Option.some.injEq]
        exact ⟨fun R' h => ⟨P1, rfl, h ▸ hR⟩, fun P' h => ⟨R, rfl, h ▸ hR⟩⟩
      · simp only [Sto.get, if_neg hk, Pls.get]; exact ih
    · cases h
end Go.AK


/- Blocks brought before the eye: the store of its own says the truth. Conditions: none. -/
set_option linter.unusedSimpArgs false
set_option linter.unusedVariables false
namespace Go.AK
open Go

theorem seg_map (rng : Option (Nat × Nat)) (cs : List Cell) (g : Cell → Cell) : (seg rng cs).map g = seg rng (cs.map g) := by
  cases rng with
  | none => rfl
  | some r => simp [seg, List.map_take, List.map_drop]

section
variable {X : EM} {s s0 : Sto} {w : World} {pl : Pls}

theorem foc_none (h : foc s pl = some s0) {K : Key} (hK : pl.get K = none) (q : List Nat) : s0.blkS K q = none := by
  have := focL_get h K
  cases hg : s0.get K with
  | none => simp [Sto.blkS, Sto.blk, hg]
  | some R => obtain ⟨P, h1, _⟩ := this.1 R hg; rw [hK] at h1; cases h1

theorem foc_nil (H : HRel X s w) (h : foc s pl = some s0) {K : Key} {P : Plc} (hK : pl.get K = some P) :
    ∃ e cs, s.blkS P.k P.p = some (e, cs) ∧ fits P.rng cs.length = true ∧ s0.blkS K [] = some (e, (seg P.rng cs).map (mapN (fwd pl))) := by
  obtain ⟨R, h1, h2⟩ := (focL_get h K).2 P hK
  have S := seen H h2
  obtain ⟨cs, h3, h4, h5⟩ := S.blk
  refine ⟨R.e, cs.map sh, Sto.blkS_of_blk h3, by simpa using h4, ?_⟩
  have hb : s0.blk K [] = some (R.e, R.cs) := by simp [Sto.blk, h1]
  rw [Sto.blkS_of_blk hb, h5, List.map_map, ← seg_map, List.map_map]
  congr 2
  apply List.map_congr_left
  intro x _
  exact sh_mapN _ x

theorem foc_cons (H : HRel X s w) (h : foc s pl = some s0) {K : Key} {P : Plc} (hK : pl.get K = some P) (i : Nat) (r : List Nat) :
    s0.blkS K (i :: r) = if inR P.rng (shOf P.rng + i) = true then s.blkS P.k (P.p ++ (shOf P.rng + i) :: r) else none := by
  obtain ⟨R, h1, h2⟩ := (focL_get h K).2 P hK
  have S := seen H h2
  obtain ⟨cs, h3, h4, h5⟩ := S.blk
  have hb : s0.blk K [] = some (R.e, R.cs) := by simp [Sto.blk, h1]
  have e1 := blkS_under hb (i :: r)
  rw [List.nil_append] at e1
  rw [e1, h5, walkS_map_cons, blkS_under h3]
  simp only [walkS, walk, seg_get h4]
  by_cases hr : inR P.rng (shOf P.rng + i) = true
  · rw [if_pos hr, if_pos hr]
  · rw [if_neg hr, if_neg hr]; rfl

/-- Where a block of the other store is of this. -/
def upP (P : Plc) (q : List Nat) : List Nat × Nat := match q with
  | [] => (P.p, shOf P.rng)
  | i :: r => (P.p ++ (shOf P.rng + i) :: r, 0)

theorem EM.foc_at (X : EM) {pl : Pls} {K : Key} {P : Plc} (hK : pl.get K = some P) (q : List Nat) (i : Nat) : (X.foc pl K q).at i = (X P.k (upP P q).1).at ((upP P q).2 + i) := by
  cases q with
  | nil =>
    cases hr : P.rng with
    | none => simp [EM.foc, hK, hr, upP]
    | some r => obtain ⟨a, l⟩ := r; simp [EM.foc, hK, hr, upP, Ext.at, Nat.add_assoc]
  | cons j r => simp [EM.foc, hK, upP]

theorem foc_up (H : HRel X s w) (h : foc s pl = some s0) {K : Key} {q : List Nat} {e : Nat} {cs0 : List Cell} (hb : s0.blkS K q = some (e, cs0)) :
    ∃ P cs, pl.get K = some P ∧ s.blkS P.k (upP P q).1 = some (e, cs) ∧ (upP P q).2 + cs0.length ≤ cs.length ∧
      (∀ i x, cs0[i]? = some x → ∃ x', cs[(upP P q).2 + i]? = some x' ∧ x = mapN (fwd pl) x') ∧
      (upP P q).2 + (X.foc pl K q).cap ≤ (X P.k (upP P q).1).cap ∧ cs0.length ≤ (X.foc pl K q).cap ∧
      (∀ i r, q = i :: r → inR P.rng (shOf P.rng + i) = true) ∧ (∀ a l, q = [] → P.rng = some (a, l) → (X.foc pl K q).cap = l ∧ cs0.length = l) := by
  cases hK : pl.get K with
  | none => rw [foc_none h hK] at hb; cases hb
  | some P =>
    refine ⟨P, ?_⟩
    cases q with
    | nil =>
      obtain ⟨e1, cs, h1, h2, h3⟩ := foc_nil H h hK
      rw [h3] at hb
      cases hb
      obtain ⟨h4, h5, h6⟩ := seg_length h2
      obtain ⟨h7, _⟩ := H.room _ _ _ _ h1
      refine ⟨cs, rfl, h1, by simpa [upP] using h4, fun i x hx => ?_, ?_, ?_, ?_, fun a l _ hr => ?_⟩
      · rw [List.getElem?_map] at hx
        obtain ⟨x', hx', rfl⟩ := Option.map_eq_some_iff.1 hx
        rw [seg_get h2] at hx'
        split at hx'
        · exact ⟨x', hx', rfl⟩
        · cases hx'
      · cases hr : P.rng with
        | none => simp [EM.foc, hK, hr, upP]
        | some r => obtain ⟨a, l⟩ := r; rw [hr] at h2; simp at h2; simp [EM.foc, hK, hr, upP]; omega
      · cases hr : P.rng with
        | none => simp [EM.foc, hK, hr]; omega
        | some r => obtain ⟨a, l⟩ := r; rw [hr] at h2; simp at h2; simp [EM.foc, hK, hr]; omega
      · intro i r hh; cases hh
      · rw [List.length_map]; exact ⟨by simp [EM.foc, hK, hr], h6 a l hr⟩
    | cons i r =>
      rw [foc_cons H h hK] at hb
      split at hb
      · rename_i hin
        refine ⟨cs0, rfl, hb, by simp [upP], fun j x hx => ⟨x, by simpa [upP] using hx, ?_⟩, by simp [upP, EM.foc, hK], ?_, fun i' r' hh => ?_, fun a l hh => by cases hh⟩
        · cases hp : P.p with
          | nil => rw [hp] at hb; exact (mapN_cln (H.cleanD _ _ _ _ _ hb x (List.mem_of_getElem? hx))).symm
          | cons a b => rw [hp] at hb; exact (mapN_cln (H.cleanD _ _ _ _ _ hb x (List.mem_of_getElem? hx))).symm
        · have := (H.room _ _ _ _ hb).1; simpa [EM.foc, hK] using this
        · cases hh; exact hin
      · cases hb

theorem upP_snoc (P : Plc) (q : List Nat) (i : Nat) : upP P (q ++ [i]) = ((upP P q).1 ++ [(upP P q).2 + i], 0) := by
  cases q with
  | nil => simp [upP]
  | cons j r => simp [upP]

theorem indep_get : ∀ {pl : Pls}, indep pl = true → ∀ {K K' : Key} {P P' : Plc}, pl.get K = some P → pl.get K' = some P' → K ≠ K' → dj P P' = true ∨ dj P' P = true
  | [], _, K, K', P, P', h, _, _ => by cases h
  | (K1, P1) :: r, hi, K, K', P, P', h, h', hne => by
    simp only [indep, Bool.and_eq_true, List.all_eq_true, decide_eq_true_eq] at hi
    have mem : ∀ {l : Pls} {K : Key} {P : Plc}, Pls.get l K = some P → (K, P) ∈ l := fun {l} => by
      induction l with
      | nil => intro K P h; cases h
      | cons x l ih =>
        intro K P h
        obtain ⟨K2, P2⟩ := x
        simp only [Pls.get] at h
        split at h
        · rename_i hk; cases h; rw [hk]; exact List.mem_cons_self
        · exact List.mem_cons_of_mem _ (ih h)
    simp only [Pls.get] at h h'
    split at h
    · rename_i hk
      cases h
      split at h'
      · rename_i hk'; exact absurd (hk.symm.trans hk') hne
      · exact .inl (hi.1 _ (mem h')).2
    · split at h'
      · cases h'; exact .inr (hi.1 _ (mem h)).2
      · exact indep_get hi.2 h h' hne

theorem strip_of_append {p p' x y : List Nat} (h : p ++ x = p' ++ y) : (∃ z, strip p p' = some z ∧ x = z ++ y) ∨ (∃ z, strip p' p = some z ∧ y = z ++ x) := by
  rcases List.append_eq_append_iff.1 h with ⟨z, h1, h2⟩ | ⟨z, h1, h2⟩
  · exact .inl ⟨z, by rw [h1]; exact strip_append p z, h2⟩
  · exact .inr ⟨z, by rw [h1]; exact strip_append p' z, h2⟩

theorem out_in {r : Option (Nat × Nat)} {i : Nat} (h : outR r i = true) (h' : inR r i = true) : False := by
  cases r with
  | none => cases h
  | some r => obtain ⟨a, l⟩ := r; simp [outR] at h; simp at h'; omega
theorem djR_in {r r' : Option (Nat × Nat)} {i : Nat} (h : djR r r' = true) (h1 : inR r i = true) (h2 : inR r' i = true) : False := by
  cases r with
  | none => cases h
  | some r =>
    cases r' with
    | none => cases h
    | some r' => obtain ⟨a, l⟩ := r; obtain ⟨a', l'⟩ := r'; simp [djR] at h; simp at h1 h2; omega

/-- Places that do not lap have no cell in common. -/
theorem dj_up {P P' : Plc} (hd : dj P P' = true) {q q' : List Nat} {i i' : Nat} (hk : P.k = P'.k) (hp : (upP P q).1 = (upP P' q').1) (hi : (upP P q).2 + i = (upP P' q').2 + i')
    (h1 : ∀ j r, q = j :: r → inR P.rng (shOf P.rng + j) = true) (h1' : ∀ j r, q' = j :: r → inR P'.rng (shOf P'.rng + j) = true)
    (h2 : ∀ a l, q = [] → P.rng = some (a, l) → i < l) (h2' : ∀ a l, q' = [] → P'.rng = some (a, l) → i' < l) : False := by
  unfold dj at hd
  rw [if_pos hk] at hd
  cases q with
  | nil =>
    cases q' with
    | nil =>
      simp only [upP] at hp hi
      have hs : strip P.p P'.p = some [] := by rw [← hp]; have := strip_append P.p []; rwa [List.append_nil] at this
      rw [hs] at hd
      simp only [djR] at hd
      split at hd
      · rename_i a l a' l' hr hr'
        rw [hr, hr'] at hi
        have := h2 a l rfl hr
        have := h2' a' l' rfl hr'
        simp at hd hi
        omega
      · cases hd
    | cons j' r' =>
      simp only [upP] at hp hi
      have hs' : strip P'.p P.p = some ((shOf P'.rng + j') :: r') := by rw [hp]; exact strip_append _ _
      have hs : strip P.p P'.p = none := by
        cases hh : strip P.p P'.p with
        | none => rfl
        | some z => have := strip_some hh; have h3 := congrArg List.length this; have h4 := congrArg List.length hp; simp at h3 h4; omega
      rw [hs, hs'] at hd
      have := h1' j' r' rfl
      exact out_in hd this
  | cons j r =>
    cases q' with
    | nil =>
      simp only [upP] at hp hi
      have hs : strip P.p P'.p = some ((shOf P.rng + j) :: r) := by rw [← hp]; exact strip_append _ _
      rw [hs] at hd
      have := h1 j r rfl
      exact out_in hd this
    | cons j' r' =>
      simp only [upP] at hp hi
      have g1 := h1 j r rfl
      have g2 := h1' j' r' rfl
      rcases strip_of_append hp with ⟨z, h3, h4⟩ | ⟨z, h3, h4⟩
      · rw [h3] at hd
        cases z with
        | nil =>
          simp only [List.nil_append, List.cons.injEq] at h4
          rw [h4.1] at g1
          exact djR_in hd g1 g2
        | cons t z =>
          simp only [List.cons_append, List.cons.injEq] at h4
          rw [h4.1] at g1
          exact out_in hd g1
      · cases hs : strip P.p P'.p with
        | some z' =>
          rw [hs] at hd
          have e1 := strip_some hs
          have e2 := strip_some h3
          have h5 := congrArg List.length e1
          have h6 := congrArg List.length e2
          simp at h5 h6
          have hz' : z' = [] := List.length_eq_zero_iff.1 (by omega)
          have hz : z = [] := List.length_eq_zero_iff.1 (by omega)
          subst hz' hz
          simp only [List.nil_append, List.cons.injEq] at h4
          rw [← h4.1] at g1
          exact djR_in hd g1 g2
        | none =>
          rw [hs, h3] at hd
          cases z with
          | nil => cases hd
          | cons t z =>
            simp only [List.cons_append, List.cons.injEq] at h4
            rw [h4.1] at g2
            exact out_in hd g2
end
end Go.AK


/- Blocks brought before the eye: the theorem. Conditions: none. -/
set_option linter.unusedSimpArgs false
set_option linter.unusedVariables false
namespace Go.AK
open Go

theorem fwd1_some {P : Plc} {k : Key} {p q : List Nat} (h : fwd1 P k p = some q) : P.k = k ∧ ((q = [] ∧ P.rng = none ∧ p = P.p) ∨ ∃ i r, q = i :: r ∧ inR P.rng (shOf P.rng + i) = true ∧ p = P.p ++ (shOf P.rng + i) :: r) := by
  unfold fwd1 at h
  split at h
  · rename_i hk
    refine ⟨hk, ?_⟩
    obtain ⟨z, h1, h2⟩ := Option.bind_eq_some_iff.1 h
    have h3 := strip_some h1
    cases z with
    | nil =>
      simp only [fwdQ] at h2
      split at h2
      · rename_i hr; cases h2; exact .inl ⟨rfl, hr, by simpa using h3⟩
      · cases h2
    | cons i r =>
      simp only [fwdQ] at h2
      split at h2
      · rename_i hin
        cases h2
        have hle : shOf P.rng ≤ i := by
          cases hr : P.rng with
          | none => simp
          | some x => obtain ⟨a, l⟩ := x; rw [hr] at hin; simp at hin ⊢; omega
        have : shOf P.rng + (i - shOf P.rng) = i := by omega
        exact .inr ⟨i - shOf P.rng, r, rfl, by rw [this]; exact hin, by rw [this]; exact h3⟩
      · cases h2
  · cases h

theorem fwd1_up {P : Plc} {q : List Nat} (h : q = [] → P.rng = none) (h1 : ∀ i r, q = i :: r → inR P.rng (shOf P.rng + i) = true) : fwd1 P P.k (upP P q).1 = some q := by
  unfold fwd1
  rw [if_pos rfl]
  cases q with
  | nil =>
    have hs : strip P.p P.p = some [] := by have := strip_append P.p []; rwa [List.append_nil] at this
    simp only [upP, hs, Option.bind_some, fwdQ, h rfl]
  | cons i r =>
    simp only [upP, strip_append, Option.bind_some, fwdQ, h1 i r rfl, if_true, Option.some.injEq, List.cons.injEq, and_true]
    omega

theorem fwdR_some : ∀ {pl : Pls} {k : Key} {p : List Nat} {K : Key} {q : List Nat}, indep pl = true → fwdR pl k p = some (K, q) → ∃ P, pl.get K = some P ∧ fwd1 P k p = some q
  | [], _, _, _, _, _, h => by cases h
  | (K1, P1) :: r, k, p, K, q, hi, h => by
    have hi' := hi
    simp only [indep, Bool.and_eq_true, List.all_eq_true, decide_eq_true_eq] at hi'
    simp only [fwdR] at h
    split at h
    · rename_i q' hq; cases h; exact ⟨P1, by simp, hq⟩
    · obtain ⟨P, h1, h2⟩ := fwdR_some hi'.2 h
      have hne : ¬ K1 = K := fun hh => by
        have : ∀ {l : Pls} {P : Plc}, Pls.get l K = some P → (K, P) ∈ l := fun {l} => by
          induction l with
          | nil => intro P h; cases h
          | cons x l ih =>
            intro P h
            obtain ⟨K2, P2⟩ := x
            simp only [Pls.get] at h
            split at h
            · rename_i hk; cases h; rw [hk]; exact List.mem_cons_self
            · exact List.mem_cons_of_mem _ (ih h)
        exact (hi'.1 _ (this h1)).1 hh.symm
      exact ⟨P, by simp [hne, h1], h2⟩

theorem isAt_some {P : Plc} {k : Key} {p : List Nat} (h : isAt P k p = true) : P.k = k ∧ p = P.p := by
  unfold isAt at h
  simp only [Bool.and_eq_true, decide_eq_true_eq] at h
  refine ⟨h.1, ?_⟩
  have h2 := h.2
  split at h2
  · rename_i hs; simpa using strip_some hs
  · cases h2

theorem fwdP_some : ∀ {pl : Pls} {k : Key} {p : List Nat} {c : Nat} {K : Key} {q : List Nat} {c' : Nat}, indep pl = true → fwdP pl k p c = some (K, q, c') →
    ∃ P, pl.get K = some P ∧ ((fwd1 P k p = some q ∧ c' = c) ∨ (P.k = k ∧ p = P.p ∧ q = [] ∧ inR P.rng c = true ∧ c' = c - shOf P.rng))
  | [], _, _, _, _, _, _, _, h => by cases h
  | (K1, P1) :: r, k, p, c, K, q, c', hi, h => by
    have hi' := hi
    simp only [indep, Bool.and_eq_true, List.all_eq_true, decide_eq_true_eq] at hi'
    simp only [fwdP] at h
    split at h
    · rename_i q' hq; cases h; exact ⟨P1, by simp, .inl ⟨hq, rfl⟩⟩
    · split at h
      · rename_i hc
        cases h
        simp only [Bool.and_eq_true] at hc
        obtain ⟨h1, h2⟩ := isAt_some hc.1
        exact ⟨P1, by simp, .inr ⟨h1, h2, rfl, hc.2, rfl⟩⟩
      · obtain ⟨P, h1, h2⟩ := fwdP_some hi'.2 h
        have hne : ¬ K1 = K := fun hh => by
          have : ∀ {l : Pls} {P : Plc}, Pls.get l K = some P → (K, P) ∈ l := fun {l} => by
            induction l with
            | nil => intro P h; cases h
            | cons x l ih =>
              intro P h
              obtain ⟨K2, P2⟩ := x
              simp only [Pls.get] at h
              split at h
              · rename_i hk; cases h; rw [hk]; exact List.mem_cons_self
              · exact List.mem_cons_of_mem _ (ih h)
          exact (hi'.1 _ (this h1)).1 hh.symm
        exact ⟨P, by simp [hne, h1], h2⟩

section
variable {X : EM} {s s0 : Sto} {w : World} {pl : Pls}

theorem fwd1_tr (H : HRel X s w) (h : foc s pl = some s0) {K : Key} {P : Plc} (hK : pl.get K = some P) {k : Key} {p q : List Nat} (hf : fwd1 P k p = some q) : Tr X s k p (X.foc pl) s0 K q := fun e cs hb => by
  obtain ⟨rfl, ⟨rfl, hr, rfl⟩ | ⟨i, r, rfl, hin, rfl⟩⟩ := fwd1_some hf
  · obtain ⟨e1, cs1, h1, h2, h3⟩ := foc_nil H h hK
    rw [hb] at h1
    cases h1
    refine ⟨_, h3, by simp [hr], by simp [EM.foc, hK, hr]⟩
  · refine ⟨cs, ?_, rfl, by simp [EM.foc, hK]⟩
    rw [foc_cons H h hK, if_pos hin]
    exact hb

theorem fwd_ok (H : HRel X s w) (hi : indep pl = true) (h : foc s pl = some s0) : (fwd pl).ok X s (X.foc pl) s0 where
  r := fun k p o K q o' hf => by
    simp only [fwd] at hf
    obtain ⟨⟨K1, q1⟩, h1, h2⟩ := Option.map_eq_some_iff.1 hf
    cases h2
    obtain ⟨P, h3, h4⟩ := fwdR_some hi h1
    exact (fwd1_tr H h h3 h4).okr o
  p := fun k p o K q o' hf => by
    obtain ⟨P, h1, ⟨h2, rfl⟩ | ⟨rfl, rfl, rfl, hin, rfl⟩⟩ := fwdP_some hi (show fwdP pl k p o = some (K, q, o') from hf)
    · exact ((fwd1_tr H h h1 h2).okr _).p
    · intro e cs hb
      obtain ⟨e1, cs1, h4, h5, h6⟩ := foc_nil H h h1
      rw [hb] at h4
      cases h4
      obtain ⟨h7, h8, h9⟩ := seg_length h5
      refine ⟨_, h6, fun hc => ?_, ?_⟩
      · rw [List.length_map]
        cases hr : P.rng with
        | none => rw [hr] at h8; simp at h8 ⊢; omega
        | some x => obtain ⟨a, l⟩ := x; rw [hr] at hin h9; simp at hin; have := h9 a l rfl; simp [shOf] at *; omega
      · cases hr : P.rng with
        | none => simp [EM.foc, h1, hr]
        | some x => obtain ⟨a, l⟩ := x; rw [hr] at hin; simp at hin; simp [EM.foc, h1, hr, Ext.at]; omega

theorem foc_owned (H : HRel X s w) (h : foc s pl = some s0) {K : Key} (ho : s0.owned K) : ∃ P, pl.get K = some P ∧ s.owned P.k := by
  obtain ⟨R, h1, h2⟩ := ho
  obtain ⟨P, h3, h4⟩ := (focL_get h K).1 R h1
  exact ⟨P, h3, (seen H h4).own h2⟩

theorem upP_inj {P : Plc} {q q' : List Nat} (h : (upP P q).1 = (upP P q').1) : q = q' := by
  cases q with
  | nil => cases q' with
    | nil => rfl
    | cons j r => simp [upP] at h
  | cons i r => cases q' with
    | nil => simp [upP] at h
    | cons j r => simp [upP] at h; simp [h]

theorem HRel.foc (H : HRel X s w) (hi : indep pl = true) (h : foc s pl = some s0) : HRel (X.foc pl) s0 w where
  cell := fun K q e cs0 hb i x hx => by
    obtain ⟨P, cs, hK, h1, h2, h3, h4⟩ := foc_up H h hb
    obtain ⟨x', hx', rfl⟩ := h3 i x hx
    obtain ⟨v, hv, hc⟩ := H.cell _ _ _ _ h1 _ x' hx'
    refine ⟨v, by rw [EM.foc_at X hK]; exact hv, HC_map (fwd_ok H hi h) hc fun hs => ?_⟩
    have := fwd1_tr H h hK (k := P.k) (p := (upP P (q ++ [i])).1) (q := q ++ [i]) ?_
    · rw [upP_snoc] at this; exact this
    · refine fwd1_up (fun hh => by simp at hh) (fun j r hh => ?_)
      cases q with
      | nil =>
        simp at hh
        obtain ⟨rfl, rfl⟩ := hh
        cases hr : P.rng with
        | none => rfl
        | some z => obtain ⟨a, l⟩ := z; have := (h4.2.2.2 a l rfl hr).2; have h5 := getElem?_len hx; simp [inR]; omega
      | cons j' r' => simp at hh; obtain ⟨rfl, _⟩ := hh; exact h4.2.2.1 _ _ rfl
  room := fun K q e cs0 hb => by
    obtain ⟨P, cs, hK, h1, h2, h3, h4, h5, _⟩ := foc_up H h hb
    refine ⟨h5, fun j hj => ?_⟩
    obtain ⟨h6, h7⟩ := H.room _ _ _ _ h1
    rw [EM.foc_at X hK]
    obtain ⟨h8, h9⟩ := h7 ((upP P q).2 + j) (by omega)
    refine ⟨h8, fun ho => h9 ?_⟩
    obtain ⟨P', h10, h11⟩ := foc_owned H h ho
    rw [hK] at h10
    cases h10
    exact h11
  apart := fun K q K' q' hb hb' ho hne j j' hj hj' => by
    obtain ⟨⟨e, cs0⟩, hb⟩ := Option.isSome_iff_exists.1 hb
    obtain ⟨⟨e', cs0'⟩, hb'⟩ := Option.isSome_iff_exists.1 hb'
    obtain ⟨P, cs, hK, h1, h2, h3, h4, h5, h6, h7⟩ := foc_up H h hb
    obtain ⟨P', cs', hK', h1', h2', h3', h4', h5', h6', h7'⟩ := foc_up H h hb'
    obtain ⟨P1, hP1, hown⟩ := foc_owned H h ho
    rw [hK] at hP1
    cases hP1
    rw [EM.foc_at X hK, EM.foc_at X hK']
    by_cases hsame : P.k = P'.k ∧ (upP P q).1 = (upP P' q').1
    · intro hh
      rw [hsame.1, hsame.2] at hh
      have hidx := Ext.at_inj hh
      by_cases hKK : K = K'
      · subst hKK
        rw [hK] at hK'
        cases hK'
        exact hne ⟨rfl, upP_inj hsame.2⟩
      · rcases indep_get hi hK hK' hKK with hd | hd
        · exact dj_up hd hsame.1 hsame.2 hidx h6 h6' (fun a l hq hr => by have := (h7 a l hq hr).1; omega) (fun a l hq hr => by have := (h7' a l hq hr).1; omega)
        · exact dj_up hd hsame.1.symm hsame.2.symm hidx.symm h6' h6 (fun a l hq hr => by have := (h7' a l hq hr).1; omega) (fun a l hq hr => by have := (h7 a l hq hr).1; omega)
    · exact H.apart _ _ _ _ (by rw [h1]; rfl) (by rw [h1']; rfl) hown hsame _ _ (by omega) (by omega)
  clean := fun K R hR hk x hx => by
    obtain ⟨P, h1, h2⟩ := (focL_get h K).1 R hR
    exact (seen H h2).clean hk x hx
  cleanD := fun K i r e cs hb x hx => by
    cases hK : pl.get K with
    | none => rw [foc_none h hK] at hb; cases hb
    | some P =>
      rw [foc_cons H h hK] at hb
      split at hb
      · cases hp : P.p with
        | nil => rw [hp] at hb; exact H.cleanD _ _ _ _ _ hb x hx
        | cons a b => rw [hp] at hb; exact H.cleanD _ _ _ _ _ hb x hx
      · cases hb
end
end Go.AK


/- What came back laid into the store that lent it: the store. Conditions: none. -/
set_option linter.unusedSimpArgs false
set_option linter.unusedVariables false
namespace Go.AK
open Go

def isU (P : Plc) (k : Key) (p : List Nat) : Bool := decide (P.k = k) && (match strip P.p p with
  | some (i :: _) => inR P.rng i
  | _ => false)
def memK : List Nat → Key → Bool
  | l, .arg j => l.contains j
  | _, _ => false
def badN (ma mb : List Nat) : Pls → Key → List Nat → Bool
  | [], _, _ => false
  | (K, P) :: r, k, p => ((memK mb K && (isAt P k p || isU P k p)) || (memK ma K && isU P k p)) || badN ma mb r k p
def killNm (pl : Pls) (ma mb : List Nat) : Nm := ⟨fun k p o => if badN ma mb pl k p then none else some (k, p, o), fun k p o => if badN ma mb pl k p then none else some (k, p, o)⟩
def bwdR (pl : Pls) (d : Option Tmp) (K : Key) (q : List Nat) (o : Nat) : Option (Key × List Nat × Nat) := match pl.get K with
  | some P => some (P.k, (upP P q).1, (upP P q).2 + o)
  | none => match K, d with
    | .res i, some t => some (.tmp t i, q, o)
    | _, _ => none
def bwd (pl : Pls) (d : Option Tmp) : Nm := ⟨bwdR pl d, bwdR pl d⟩

def mapR (f : Nm) (R : Root) : Root := if R.kd = .box then ⟨R.kd, R.e, R.cs.map (mapN f)⟩ else R
def Sto.mapN (f : Nm) (s : Sto) : Sto := s.map fun p => (p.1, mapR f p.2)
def splice (rng : Option (Nat × Nat)) (cs new : List Cell) : List Cell := match rng with
  | none => new
  | some (a, l) => cs.take a ++ new ++ cs.drop (a + l)
def mrg1 (s1 : Sto) (bw : Nm) (K : Key) (P : Plc) (s : Sto) : Option Sto := match s1.get K, s.get P.k with
  | some R1, some R => match walk (R.e, R.cs) P.p with
    | some (e, cs) =>
      if e = R1.e ∧ fits P.rng cs.length = true then
        (if P.p = [] ∧ R.kd = .box then some (s.setBlk P.k P.p (splice P.rng cs (R1.cs.map (mapN bw))))
        else if R1.kd ≠ .box then some (s.setBlk P.k P.p (splice P.rng cs R1.cs))
        else if R1.cs.all cln then some (s.setBlk P.k P.p (splice P.rng cs R1.cs)) else none)
      else none
    | none => none
  | _, _ => none
def mrgL (s1 : Sto) (bw : Nm) (s : Sto) : Pls → Option Sto
  | [] => some s
  | (K, P) :: r => match mrgL s1 bw s r with
    | some s' => mrg1 s1 bw K P s'
    | none => none

theorem Sto.get_mapN (s : Sto) (f : Nm) (k : Key) : (s.mapN f).get k = (s.get k).map (mapR f) := by
  induction s with
  | nil => rfl
  | cons p s ih =>
    obtain ⟨q, r⟩ := p
    show (if q = k then some (mapR f r) else Sto.get (Sto.mapN f s) k) = _
    rw [ih]
    by_cases h : q = k <;> simp [h]
theorem mapR_kd (f : Nm) (R : Root) : (mapR f R).kd = R.kd := by unfold mapR; split <;> rfl
theorem mapR_e (f : Nm) (R : Root) : (mapR f R).e = R.e := by unfold mapR; split <;> rfl
theorem mapR_cs {f : Nm} {R : Root} (h : R.kd ≠ .box → ∀ x ∈ R.cs, cln x = true) : (mapR f R).cs = R.cs.map (mapN f) := by
  unfold mapR
  split
  · rfl
  · rename_i hk; exact (map_mapN_cln (h hk)).symm
theorem HRel.blkS_mapN {X : EM} {s : Sto} {w : World} (H : HRel X s w) (f : Nm) (k : Key) (q : List Nat) :
    (s.mapN f).blkS k q = (s.blkS k q).map fun b => (b.1, b.2.map (mapN f)) := by
  cases hg : s.get k with
  | none => simp [Sto.blkS, Sto.blk, Sto.get_mapN, hg]
  | some R =>
    have e1 : (s.mapN f).blkS k q = walkS (R.e, R.cs.map (mapN f)) q := by
      simp only [Sto.blkS, Sto.blk, Sto.get_mapN, hg, Option.map_some, Option.bind_some, Root.blk, mapR_e, mapR_cs (H.clean k R hg)]; rfl
    have e2 : s.blkS k q = walkS (R.e, R.cs) q := by simp only [Sto.blkS, Sto.blk, hg, Option.bind_some, Root.blk]; rfl
    rw [e1]
    cases q with
    | nil => rw [walkS_map_nil, e2]; simp [walkS, shB]
    | cons i r =>
      rw [walkS_map_cons, ← e2]
      cases hb : s.blkS k (i :: r) with
      | none => rfl
      | some b =>
        obtain ⟨e, cs⟩ := b
        have := map_mapN_cln (f := f) (H.cleanD k r i e cs hb)
        simp [this]

/-- Where the blocks of the store after a laying come from. -/
structure Mg (s2 s1 : Sto) (bw : Nm) (done : Pls) (sj : Sto) : Prop where
  into : ∀ k q K q', fwdR done k q = some (K, q') → sj.blkS k q = (s1.blkS K q').map fun b => (b.1, b.2.map (mapN bw))
  past : ∀ k q, fwdR done k q = none → (s2.blkS k q = none ∧ sj.blkS k q = none) ∨ ∃ e cs cs', s2.blkS k q = some (e, cs) ∧ sj.blkS k q = some (e, cs') ∧ cs'.length = cs.length ∧
    ∀ i x, cs'[i]? = some x → (cs[i]? = some x ∧ ∀ K P, done.get K = some P → isAt P k q = true → inR P.rng i = false) ∨
      ∃ K P cs1 x1 a l, done.get K = some P ∧ isAt P k q = true ∧ P.rng = some (a, l) ∧ a ≤ i ∧ i < a + l ∧ s1.blkS K [] = some (e, cs1) ∧ cs1[i - a]? = some x1 ∧ x = mapN bw x1
  kd : ∀ k, (sj.get k).map (·.kd) = (s2.get k).map (·.kd)
  clean : ∀ k r, sj.get k = some r → r.kd ≠ .box → ∀ x ∈ r.cs, cln x = true

theorem isAt_self (P : Plc) : isAt P P.k P.p = true := by
  unfold isAt
  have hs : strip P.p P.p = some [] := by have := strip_append P.p []; rwa [List.append_nil] at this
  simp [hs]

theorem splice_get {a l : Nat} {cs new : List Cell} (hl : new.length = l) (hf : a + l ≤ cs.length) (i : Nat) :
    (splice (some (a, l)) cs new)[i]? = if a ≤ i ∧ i < a + l then new[i - a]? else cs[i]? := by
  simp only [splice]
  by_cases h1 : i < a
  · rw [List.append_assoc, List.getElem?_append_left (by simp; omega), if_neg (by omega), List.getElem?_take, if_pos h1]
  · by_cases h2 : i < a + l
    · rw [if_pos ⟨by omega, h2⟩, List.append_assoc, List.getElem?_append_right (by simp; omega), List.getElem?_append_left (by simp; omega)]
      congr 1; simp; omega
    · rw [if_neg (by omega), List.getElem?_append_right (by simp; omega), List.getElem?_drop]
      congr 1; simp; omega
theorem splice_length {a l : Nat} {cs new : List Cell} (hl : new.length = l) (hf : a + l ≤ cs.length) : (splice (some (a, l)) cs new).length = cs.length := by
  simp [splice]; omega

end Go.AK
