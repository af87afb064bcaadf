/- A walk of code over an abstract store, part 0. Conditions: none. -/
import Derived.Calls
import Derived.Laws.Append
import Derived.RowKit3
import Derived.Laws.Small
import Derived.Laws.StructEq
set_option linter.unusedSimpArgs false
set_option linter.unusedVariables false
/- The abstract store: blocks of cells that own blocks; places; what a place holds behind a change. Conditions: none. -/
namespace Go.AK
open Go

inductive Key where
  | arg (j : Nat) | res (j : Nat) | tmp (t j : Nat)
  deriving DecidableEq

inductive Cell where
  | sc (v : Value)
  | ref (k : Key) (p : List Nat) (off n : Nat)
  | ptr (k : Key) (p : List Nat) (c : Nat)
  | own (e n : Nat) (cs : List Cell)
  | obx (cs : List Cell)
  | fn (f : FuncId) (caps : List Cell)
  | ifc (t : TypeId) (c : Cell)
  | dead

inductive Kind where | box | lst | fz
  deriving DecidableEq

structure Root where
  kd : Kind
  e : Nat
  cs : List Cell

abbrev Sto := List (Key × Root)

@[simp] def Sto.get : Sto → Key → Option Root
  | [], _ => none
  | (k', r) :: s, k => if k' = k then some r else Sto.get s k
@[simp] def Sto.set : Sto → Key → Root → Sto
  | [], k, r => [(k, r)]
  | (k', r') :: s, k, r => if k' = k then (k, r) :: s else (k', r') :: Sto.set s k r
@[simp] def Sto.del : Sto → Key → Sto
  | [], _ => []
  | (k', r') :: s, k => if k' = k then Sto.del s k else (k', r') :: Sto.del s k

theorem Sto.get_set (s : Sto) (k k' : Key) (r : Root) : (s.set k r).get k' = if k = k' then some r else s.get k' := by
  induction s with
  | nil => simp
  | cons p s ih =>
    obtain ⟨q, r'⟩ := p
    by_cases h : q = k
    · subst h; by_cases h2 : q = k' <;> simp [h2]
    · by_cases h2 : q = k'
      · subst h2; have : ¬ k = q := fun e => h e.symm
        simp [h, this]
      · simp [h, h2, ih]
theorem Sto.get_del (s : Sto) (k k' : Key) : (s.del k).get k' = if k = k' then none else s.get k' := by
  induction s with
  | nil => simp
  | cons p s ih =>
    obtain ⟨q, r'⟩ := p
    by_cases h : q = k
    · subst h
      simp only [Sto.del, if_true, Sto.get, ih]
      by_cases h2 : q = k' <;> simp [h2]
    · by_cases h2 : q = k'
      · subst h2; have : ¬ k = q := fun e => h e.symm
        simp [h, this]
      · simp [h, h2, ih]

/-- The block that a cell owns: its cells for an element, its cells. -/
def sub : Option Cell → Option (Nat × List Cell)
  | some (.own e _ cs) => some (e, cs)
  | some (.obx cs) => some (0, cs)
  | _ => none
def repl (new : List Cell) : Cell → Cell
  | .own e n _ => .own e n new
  | .obx _ => .obx new
  | x => x
/-- A cell without what it owns. -/
def sh : Cell → Cell
  | .own e n _ => .own e n []
  | .obx _ => .obx []
  | x => x
@[simp] theorem sub_none : sub none = none := rfl
@[simp] theorem sub_own (e n : Nat) (cs : List Cell) : sub (some (.own e n cs)) = some (e, cs) := rfl
@[simp] theorem sub_obx (cs : List Cell) : sub (some (.obx cs)) = some (0, cs) := rfl
@[simp] theorem sub_sc (v : Value) : sub (some (.sc v)) = none := rfl
@[simp] theorem sub_ref (k : Key) (p : List Nat) (o n : Nat) : sub (some (.ref k p o n)) = none := rfl
@[simp] theorem sub_ptr (k : Key) (p : List Nat) (c : Nat) : sub (some (.ptr k p c)) = none := rfl
@[simp] theorem sub_fn (f : FuncId) (l : List Cell) : sub (some (.fn f l)) = none := rfl
@[simp] theorem sub_ifc (t : TypeId) (c : Cell) : sub (some (.ifc t c)) = none := rfl
@[simp] theorem sub_dead : sub (some .dead) = none := rfl
@[simp] theorem repl_own (new : List Cell) (e n : Nat) (cs : List Cell) : repl new (.own e n cs) = .own e n new := rfl
@[simp] theorem repl_obx (new : List Cell) (cs : List Cell) : repl new (.obx cs) = .obx new := rfl
@[simp] theorem sh_own (e n : Nat) (cs : List Cell) : sh (.own e n cs) = .own e n [] := rfl
@[simp] theorem sh_obx (cs : List Cell) : sh (.obx cs) = .obx [] := rfl
@[simp] theorem sh_sc (v : Value) : sh (.sc v) = .sc v := rfl
@[simp] theorem sh_ref (k : Key) (p : List Nat) (o n : Nat) : sh (.ref k p o n) = .ref k p o n := rfl
@[simp] theorem sh_ptr (k : Key) (p : List Nat) (c : Nat) : sh (.ptr k p c) = .ptr k p c := rfl
@[simp] theorem sh_fn (f : FuncId) (l : List Cell) : sh (.fn f l) = .fn f l := rfl
@[simp] theorem sh_ifc (t : TypeId) (c : Cell) : sh (.ifc t c) = .ifc t c := rfl
@[simp] theorem sh_dead : sh .dead = .dead := rfl
@[simp] def walk (b : Nat × List Cell) : List Nat → Option (Nat × List Cell)
  | [] => some b
  | i :: p => (sub b.2[i]?).bind (walk · p)
@[simp] def setw (cs new : List Cell) : List Nat → List Cell
  | [] => new
  | i :: p => match sub cs[i]? with
    | some b => cs.modify i (repl (setw b.2 new p))
    | none => cs
@[simp] def Root.blk (r : Root) (p : List Nat) : Option (Nat × List Cell) := walk (r.e, r.cs) p
@[simp] def Sto.blk (s : Sto) (k : Key) (p : List Nat) : Option (Nat × List Cell) := (s.get k).bind (·.blk p)
@[simp] def Sto.setBlk (s : Sto) (k : Key) (p : List Nat) (new : List Cell) : Sto :=
  match s.get k with
  | some r => s.set k ⟨r.kd, r.e, setw r.cs new p⟩
  | none => s

/-- What is behind a path that begins with p. -/
@[simp] def strip : List Nat → List Nat → Option (List Nat)
  | [], q => some q
  | _ :: _, [] => none
  | a :: p, b :: q => if a = b then strip p q else none

theorem strip_append (p q : List Nat) : strip p (p ++ q) = some q := by
  induction p with
  | nil => simp
  | cons a p ih => simp [ih]
theorem strip_some {p q r : List Nat} (h : strip p q = some r) : q = p ++ r := by
  induction p generalizing q with
  | nil => simpa using h
  | cons a p ih =>
    cases q with
    | nil => simp at h
    | cons b q =>
      simp only [strip] at h
      by_cases e : a = b
      · subst e; simp only [if_true] at h; simp [ih h]
      · simp [e] at h
theorem walk_append (b : Nat × List Cell) (p q : List Nat) : walk b (p ++ q) = (walk b p).bind (walk · q) := by
  induction p generalizing b with
  | nil => simp
  | cons i p ih =>
    simp only [List.cons_append, walk]
    cases h : sub b.2[i]? with
    | none => rfl
    | some c => simp [ih]

/-- A block as it looks, what it owns aside. -/
def shB (b : Nat × List Cell) : Nat × List Cell := (b.1, b.2.map sh)
def walkS (b : Nat × List Cell) (p : List Nat) : Option (Nat × List Cell) := (walk b p).map shB
def Sto.blkS (s : Sto) (k : Key) (p : List Nat) : Option (Nat × List Cell) := (s.blk k p).map shB

theorem sub_repl {x : Cell} {b : Nat × List Cell} (new : List Cell) (h : sub (some x) = some b) : sub (some (repl new x)) = some (b.1, new) := by
  cases x <;> simp at h ⊢ <;> (rw [← h])
theorem sh_repl (new : List Cell) (x : Cell) : sh (repl new x) = sh x := by cases x <;> rfl

theorem walkS_setw (cs new : List Cell) (e : Nat) (p : List Nat) {e0 : Nat} {c0 : List Cell} (h : walk (e, cs) p = some (e0, c0)) (q : List Nat) :
    walkS (e, setw cs new p) q = match strip p q with
      | some r => walkS (e0, new) r
      | none => walkS (e, cs) q := by
  induction p generalizing e cs q with
  | nil => simp at h; simp [h.1]
  | cons i p ih =>
    simp only [walk] at h
    cases hs : sub cs[i]? with
    | none => rw [hs] at h; exact absurd h (by simp)
    | some b =>
      rw [hs, Option.bind_some] at h
      cases hx : cs[i]? with
      | none => rw [hx] at hs; exact absurd hs (by simp)
      | some x =>
        rw [hx] at hs
        have hi : i < cs.length := by
          rcases Nat.lt_or_ge i cs.length with h' | h'
          · exact h'
          · simp [List.getElem?_eq_none h'] at hx
        have hset : setw cs new (i :: p) = cs.modify i (repl (setw b.2 new p)) := by simp only [setw, hx, hs]
        rw [hset]
        have hg : (cs.modify i (repl (setw b.2 new p)))[i]? = some (repl (setw b.2 new p) x) := by rw [List.getElem?_modify]; simp [hx]
        cases q with
        | nil =>
          simp only [strip, walkS, walk, Option.map_some, shB]
          congr 2
          apply List.ext_getElem?
          intro j
          rw [List.getElem?_map, List.getElem?_map, List.getElem?_modify]
          by_cases hj : i = j
          · subst hj; simp only [hx, if_true]; show some (sh (repl _ x)) = some (sh x); rw [sh_repl]
          · simp [hj]
        | cons j q =>
          simp only [strip]
          by_cases hj : i = j
          · subst hj
            simp only [if_true]
            have e1 : walkS (e, cs.modify i (repl (setw b.2 new p))) (i :: q) = walkS (b.1, setw b.2 new p) q := by
              simp only [walkS, walk, hg, sub_repl _ hs, Option.bind_some]
            rw [e1, ih b.2 b.1 h q]
            have e2 : walkS (e, cs) (i :: q) = walkS (b.1, b.2) q := by simp only [walkS, walk, hx, hs, Option.bind_some]
            rw [e2]
          · simp only [if_neg hj]
            have : (cs.modify i (repl (setw b.2 new p)))[j]? = cs[j]? := by rw [List.getElem?_modify]; simp [hj]
            simp only [walkS, walk, this]

theorem Sto.blkS_setBlk (s : Sto) (k : Key) (p : List Nat) (new : List Cell) {e0 : Nat} {c0 : List Cell} (h : s.blk k p = some (e0, c0)) (k' : Key) (q : List Nat) :
    (s.setBlk k p new).blkS k' q = if k = k' then (match strip p q with
      | some r => walkS (e0, new) r
      | none => s.blkS k q) else s.blkS k' q := by
  cases hg : s.get k with
  | none => simp [hg] at h
  | some r =>
    simp only [Sto.blk, hg, Option.bind_some, Root.blk] at h
    simp only [Sto.setBlk, hg, Sto.blkS, Sto.blk, Sto.get_set]
    by_cases hk : k = k'
    · subst hk
      simp only [if_true, Option.bind_some, Root.blk, hg]
      exact walkS_setw r.cs new r.e p h q
    · simp [hk]

end Go.AK


/- What the abstract store says of the world: addresses of places, cells, what is apart. Conditions: none. -/
namespace Go.AK
open Go

structure Ext where
  b : Nat
  o : Nat
  cap : Nat
def Ext.at (x : Ext) (i : Nat) : Addr := ⟨x.b, x.o + i, none⟩
abbrev EM := Key → List Nat → Ext

abbrev flat (v : Value) : Bool := v.oneCell'

def all2 {α β : Type} (R : α → β → Prop) : List α → List β → Prop
  | [], [] => True
  | a :: l, b :: m => R a b ∧ all2 R l m
  | _, _ => False
theorem all2.imp {α β γ : Type} {R : α → β → Prop} {R' : γ → β → Prop} (f : α → γ) {l : List α} {m : List β} (h : ∀ a b, a ∈ l → R a b → R' (f a) b) (hl : all2 R l m) : all2 R' (l.map f) m := by
  induction l generalizing m with
  | nil => cases m <;> simp_all [all2]
  | cons a l ih =>
    cases m with
    | nil => simp [all2] at hl
    | cons b m =>
      simp only [all2, List.map_cons] at hl ⊢
      exact ⟨h a b (by simp) hl.1, ih (fun a' b' ha => h a' b' (by simp [ha])) hl.2⟩
theorem all2.length {α β : Type} {R : α → β → Prop} {l : List α} {m : List β} (hl : all2 R l m) : l.length = m.length := by
  induction l generalizing m with
  | nil => cases m <;> simp_all [all2]
  | cons a l ih => cases m with
    | nil => simp [all2] at hl
    | cons b m => simp [ih hl.2]
theorem all2.get {α β : Type} {R : α → β → Prop} {l : List α} {m : List β} (hl : all2 R l m) {i : Nat} {a : α} (h : l[i]? = some a) : ∃ b, m[i]? = some b ∧ R a b := by
  induction l generalizing m i with
  | nil => simp at h
  | cons x l ih => cases m with
    | nil => simp [all2] at hl
    | cons y m =>
      cases i with
      | zero => simp at h; subst h; exact ⟨y, rfl, hl.1⟩
      | succ i => simpa using ih hl.2 (by simpa using h)

def VC1 (X : EM) (s : Sto) : Cell → Value → Prop
  | .sc u, v => v = u ∧ flat u = true
  | .ref k p off n, v => ∃ e cs cap a, s.blkS k p = some (e, cs) ∧ off + n * e ≤ cs.length ∧ n ≤ cap ∧ v = .slice a n cap ∧ (cap = 0 ∨ (a = some ((X k p).at off) ∧ off + cap * e ≤ (X k p).cap))
  | .ptr k p c, v => ∃ e cs, s.blkS k p = some (e, cs) ∧ c ≤ cs.length ∧ v = .pointer (some ((X k p).at c))
  | .dead, _ => True
  | _, _ => False

def VC (X : EM) (s : Sto) : Cell → Value → Prop
  | .fn f caps, v => ∃ vs : List Value, v = .func (.func f) #[] vs.toArray ∧ all2 (VC1 X s) caps vs
  | .ifc t c, v => ∃ u, v = .iface t u ∧ VC1 X s c u
  | x, v => VC1 X s x v

def HC (X : EM) (s : Sto) (k : Key) (p : List Nat) (i : Nat) : Cell → Value → Prop
  | .own e n _, v => VC1 X s (.ref k (p ++ [i]) 0 n) v ∧ ∃ cs, s.blkS k (p ++ [i]) = some (e, cs) ∧ cs.length = n * e
  | .obx _, v => VC1 X s (.ptr k (p ++ [i]) 0) v
  | x, v => VC X s x v

def Sto.owned (s : Sto) (k : Key) : Prop := ∃ r, s.get k = some r ∧ r.kd ≠ .fz

/-- A cell that may lie in a list or behind an owner: nothing in it names a place. -/
def cln : Cell → Bool
  | .sc _ | .own .. | .obx _ | .dead => true
  | .ifc _ (.sc _) => true
  | .fn _ [] => true
  | _ => false

structure HRel (X : EM) (s : Sto) (w : World) : Prop where
  cell : ∀ k p e cs, s.blkS k p = some (e, cs) → ∀ i x, cs[i]? = some x → ∃ v, w.cell? ((X k p).at i) = some v ∧ HC X s k p i x v
  room : ∀ k p e cs, s.blkS k p = some (e, cs) → cs.length ≤ (X k p).cap ∧ ∀ j, j < (X k p).cap → (w.cell? ((X k p).at j)).isSome ∧ (s.owned k → w.frozen? ((X k p).at j) = false)
  apart : ∀ k p k' p', (s.blkS k p).isSome → (s.blkS k' p').isSome → s.owned k → ¬ (k = k' ∧ p = p') → ∀ j j', j < (X k p).cap → j' < (X k' p').cap → (X k p).at j ≠ (X k' p').at j'
  clean : ∀ k r, s.get k = some r → r.kd ≠ .box → ∀ x ∈ r.cs, cln x = true
  cleanD : ∀ k p i e cs, s.blkS k (i :: p) = some (e, cs) → ∀ x ∈ cs, cln x = true

theorem Ext.at_inj {x : Ext} {i j : Nat} (h : x.at i = x.at j) : i = j := by simpa [Ext.at] using h

/-- The block at one place is there, as long, at the same address. -/
def Tr (X : EM) (s : Sto) (k : Key) (p : List Nat) (X' : EM) (s' : Sto) (k' : Key) (p' : List Nat) : Prop :=
  ∀ e cs, s.blkS k p = some (e, cs) → ∃ cs', s'.blkS k' p' = some (e, cs') ∧ cs'.length = cs.length ∧ X' k' p' = X k p

theorem Tr.refl (X : EM) (s : Sto) (k : Key) (p : List Nat) : Tr X s k p X s k p := fun _ cs h => ⟨cs, h, rfl, rfl⟩
theorem Tr.trans {X X' X'' : EM} {s s' s'' : Sto} {k k' k'' : Key} {p p' p'' : List Nat} (h : Tr X s k p X' s' k' p') (h' : Tr X' s' k' p' X'' s'' k'' p'') :
    Tr X s k p X'' s'' k'' p'' := fun e cs hb => by
  obtain ⟨cs', h1, h2, h3⟩ := h e cs hb
  obtain ⟨cs'', h4, h5, h6⟩ := h' e cs' h1
  exact ⟨cs'', h4, h5.trans h2, h6.trans h3⟩
theorem Tr.eq {X : EM} {s s' : Sto} {k : Key} {p : List Nat} (h : s'.blkS k p = s.blkS k p) : Tr X s k p X s' k p := fun _ cs hb => ⟨cs, h.trans hb, rfl, rfl⟩

theorem VC1_ref {X X' : EM} {s s' : Sto} {k k' : Key} {p p' : List Nat} {off n : Nat} {v : Value} (h : Tr X s k p X' s' k' p') (hv : VC1 X s (.ref k p off n) v) :
    VC1 X' s' (.ref k' p' off n) v := by
  obtain ⟨e, cs, cap, a, hb, hl, hn, rfl, hc⟩ := hv
  obtain ⟨cs', hb', hl', hx⟩ := h e cs hb
  exact ⟨e, cs', cap, a, hb', hl' ▸ hl, hn, rfl, hx ▸ hc⟩
theorem VC1_ptr {X X' : EM} {s s' : Sto} {k k' : Key} {p p' : List Nat} {c : Nat} {v : Value} (h : Tr X s k p X' s' k' p') (hv : VC1 X s (.ptr k p c) v) :
    VC1 X' s' (.ptr k' p' c) v := by
  obtain ⟨e, cs, hb, hl, rfl⟩ := hv
  obtain ⟨cs', hb', hl', hx⟩ := h e cs hb
  exact ⟨e, cs', hb', hl' ▸ hl, by rw [hx]⟩

/-- The places that a cell names, one deep. -/
def names1 : Cell → Key → List Nat → Prop
  | .ref k p _ _, k', p' => k = k' ∧ p = p'
  | .ptr k p _, k', p' => k = k' ∧ p = p'
  | _, _, _ => False

theorem VC1_tr {X X' : EM} {s s' : Sto} {x : Cell} {v : Value} (h : ∀ k p, names1 x k p → Tr X s k p X' s' k p) (hv : VC1 X s x v) : VC1 X' s' x v := by
  cases x with
  | sc u => exact hv
  | ref k p off n => exact VC1_ref (h k p ⟨rfl, rfl⟩) hv
  | ptr k p c => exact VC1_ptr (h k p ⟨rfl, rfl⟩) hv
  | dead => trivial
  | own e n cs => exact hv
  | obx cs => exact hv
  | fn f caps => exact hv
  | ifc t c => exact hv

/-! ### refs that are put aside -/
def kill1 (k : Key) (d : Nat) : Cell → Cell
  | .ref k' p off n => if k' = k ∧ d ≤ p.length then .dead else .ref k' p off n
  | .ptr k' p c => if k' = k ∧ d ≤ p.length then .dead else .ptr k' p c
  | x => x
def killC (k : Key) (d : Nat) : Cell → Cell
  | .fn f caps => .fn f (caps.map (kill1 k d))
  | .ifc t c => .ifc t (kill1 k d c)
  | x => kill1 k d x

theorem VC1_kill {X X' : EM} {s s' : Sto} {k : Key} {d : Nat} {x : Cell} {v : Value} (h : ∀ k' p, ¬ (k' = k ∧ d ≤ p.length) → Tr X s k' p X' s' k' p) (hv : VC1 X s x v) :
    VC1 X' s' (kill1 k d x) v := by
  cases x with
  | sc u => exact hv
  | ref k' p off n =>
    simp only [kill1]
    by_cases hk : k' = k ∧ d ≤ p.length
    · rw [if_pos hk]; trivial
    · rw [if_neg hk]; exact VC1_ref (h k' p hk) hv
  | ptr k' p c =>
    simp only [kill1]
    by_cases hk : k' = k ∧ d ≤ p.length
    · rw [if_pos hk]; trivial
    · rw [if_neg hk]; exact VC1_ptr (h k' p hk) hv
  | dead => trivial
  | own e n cs => exact hv
  | obx cs => exact hv
  | fn f caps => exact hv
  | ifc t c => exact hv

theorem VC_kill {X X' : EM} {s s' : Sto} {k : Key} {d : Nat} {x : Cell} {v : Value} (h : ∀ k' p, ¬ (k' = k ∧ d ≤ p.length) → Tr X s k' p X' s' k' p) (hv : VC X s x v) :
    VC X' s' (killC k d x) v := by
  cases x with
  | fn f caps =>
    obtain ⟨vs, rfl, hf⟩ := hv
    exact ⟨vs, rfl, all2.imp (kill1 k d) (fun _ _ _ h1 => VC1_kill h h1) hf⟩
  | ifc t c => obtain ⟨u, rfl, hu⟩ := hv; exact ⟨u, rfl, VC1_kill h hu⟩
  | sc u => exact hv
  | ref k' p off n => simp only [VC] at hv; have := VC1_kill (k := k) (d := d) h hv; simp only [killC]; cases hk : kill1 k d (.ref k' p off n) <;> rw [hk] at this <;> first | exact this | (simp only [kill1] at hk; split at hk <;> cases hk)
  | ptr k' p c => simp only [VC] at hv; have := VC1_kill (k := k) (d := d) h hv; simp only [killC]; cases hk : kill1 k d (.ptr k' p c) <;> rw [hk] at this <;> first | exact this | (simp only [kill1] at hk; split at hk <;> cases hk)
  | dead => trivial
  | own e n cs => exact hv
  | obx cs => exact hv

theorem VC_cln {X X' : EM} {s s' : Sto} {x : Cell} {v : Value} (hc : cln x = true) (hv : VC X s x v) : VC X' s' x v := by
  cases x with
  | sc u => exact hv
  | ref k p off n => simp [cln] at hc
  | ptr k p c => simp [cln] at hc
  | own e n cs => exact hv
  | obx cs => exact hv
  | dead => trivial
  | fn f caps =>
    cases caps with
    | nil => obtain ⟨vs, rfl, hf⟩ := hv; cases vs with
      | nil => exact ⟨[], rfl, trivial⟩
      | cons => exact absurd hf (by simp [all2])
    | cons a l => simp [cln] at hc
  | ifc t c =>
    cases c with
    | sc u => exact hv
    | _ => simp [cln] at hc

theorem HC_leaf {X : EM} {s : Sto} {k : Key} {p : List Nat} {i : Nat} {x : Cell} {v : Value} (h : sub (some x) = none) (hv : VC X s x v) : HC X s k p i x v := by
  cases x <;> first | exact hv | (simp at h)
theorem HC_leaf' {X : EM} {s : Sto} {k : Key} {p : List Nat} {i : Nat} {x : Cell} {v : Value} (h : sub (some x) = none) (hv : HC X s k p i x v) : VC X s x v := by
  cases x <;> first | exact hv | (simp at h)

/-- A cell's fact, carried to another store: what it names is there; what it owns is there. -/
theorem HC_tr {X X' : EM} {s s' : Sto} {k k' : Key} {p p' : List Nat} {i i' : Nat} {x : Cell} {v : Value} (hv : HC X s k p i x v)
    (ho : (sub (some x)).isSome → Tr X s k (p ++ [i]) X' s' k' (p' ++ [i'])) (hl : VC X s x v → VC X' s' x v) : HC X' s' k' p' i' x v := by
  cases x with
  | own e n cs =>
    obtain ⟨h1, cs', h2, h3⟩ := hv
    have ht := ho rfl
    obtain ⟨cs'', h4, h5, _⟩ := ht e cs' h2
    exact ⟨VC1_ref ht h1, cs'', h4, h5.trans h3⟩
  | obx cs => exact VC1_ptr (ho rfl) hv
  | sc u => exact hl hv
  | ref k p off n => exact hl hv
  | ptr k p c => exact hl hv
  | dead => trivial
  | fn f caps => exact hl hv
  | ifc t c => exact hl hv

end Go.AK


/- Steps that turn the abstract store alone: refs put aside, a root dropped, a cell told. Conditions: none. -/
namespace Go.AK
open Go

def killR (k : Key) (d : Nat) : Root → Root
  | ⟨.box, e, cs⟩ => ⟨.box, e, cs.map (killC k d)⟩
  | r => r
def Sto.kill (s : Sto) (k : Key) (d : Nat) : Sto := s.map fun p => (p.1, killR k d p.2)

theorem Sto.get_kill (s : Sto) (k : Key) (d : Nat) (k' : Key) : (s.kill k d).get k' = (s.get k').map (killR k d) := by
  induction s with
  | nil => rfl
  | cons p s ih =>
    obtain ⟨q, r⟩ := p
    show (if q = k' then some (killR k d r) else (Sto.kill s k d).get k') = _
    rw [ih]
    by_cases h : q = k' <;> simp [h]

theorem killR_kd (k : Key) (d : Nat) (r : Root) : (killR k d r).kd = r.kd := by obtain ⟨kd, e, cs⟩ := r; cases kd <;> rfl
theorem killR_e (k : Key) (d : Nat) (r : Root) : (killR k d r).e = r.e := by obtain ⟨kd, e, cs⟩ := r; cases kd <;> rfl
theorem killC_cln {k : Key} {d : Nat} {x : Cell} (h : cln x = true) : killC k d x = x := by
  cases x with
  | fn f caps => cases caps with
    | nil => rfl
    | cons a l => simp [cln] at h
  | ifc t c => cases c <;> simp_all [cln, killC, kill1]
  | _ => simp_all [cln, killC, kill1]
theorem sub_killC (k : Key) (d : Nat) (x : Option Cell) : sub (x.map (killC k d)) = sub x := by
  cases x with
  | none => rfl
  | some x => cases x with
    | ref k' p off n => simp only [Option.map_some, killC, kill1]; split <;> rfl
    | ptr k' p c => simp only [Option.map_some, killC, kill1]; split <;> rfl
    | _ => rfl
theorem sh_killC (k : Key) (d : Nat) (x : Cell) : sh (killC k d x) = killC k d (sh x) := by
  cases x with
  | ref k' p off n => simp only [killC, kill1]; by_cases h : k' = k ∧ d ≤ p.length <;> simp [h, kill1]
  | ptr k' p c => simp only [killC, kill1]; by_cases h : k' = k ∧ d ≤ p.length <;> simp [h, kill1]
  | _ => rfl
theorem cln_killC {k : Key} {d : Nat} {x : Cell} (h : cln x = true) : cln (killC k d x) = true := by rw [killC_cln h]; exact h
theorem cln_sh {x : Cell} : cln (sh x) = cln x := by cases x <;> rfl

theorem map_killC_cln {k : Key} {d : Nat} {cs : List Cell} (h : ∀ x ∈ cs, cln x = true) : cs.map (killC k d) = cs := by
  induction cs with
  | nil => rfl
  | cons a l ih => simp only [List.map_cons]; rw [killC_cln (h a (by simp)), ih fun x hx => h x (by simp [hx])]
theorem killR_cs {k : Key} {d : Nat} {r : Root} (h : r.kd ≠ .box → ∀ x ∈ r.cs, cln x = true) : (killR k d r).cs = r.cs.map (killC k d) := by
  obtain ⟨kd, e, cs⟩ := r
  cases kd with
  | box => rfl
  | _ =>
    show cs = cs.map (killC k d)
    exact (map_killC_cln (h (by simp))).symm

theorem HRel.blkS_kill {X : EM} {s : Sto} {w : World} (H : HRel X s w) (k : Key) (d : Nat) (k' : Key) (p : List Nat) :
    (s.kill k d).blkS k' p = (s.blkS k' p).map fun b => (b.1, b.2.map (killC k d)) := by
  simp only [Sto.blkS, Sto.blk, Sto.get_kill]
  cases hg : s.get k' with
  | none => rfl
  | some r =>
    have hc := killR_cs (k := k) (d := d) (H.clean k' r hg)
    simp only [Option.map_some, Option.bind_some, Root.blk, killR_e, hc]
    cases p with
    | nil => simp [shB, sh_killC, Function.comp_def]
    | cons i q =>
      have e1 : walk (r.e, r.cs.map (killC k d)) (i :: q) = walk (r.e, r.cs) (i :: q) := by
        simp only [walk, List.getElem?_map, sub_killC]
      rw [e1]
      cases hw : walk (r.e, r.cs) (i :: q) with
      | none => rfl
      | some b =>
        simp only [Option.map_some, shB]
        have hb : s.blkS k' (i :: q) = some (shB b) := by simp only [Sto.blkS, Sto.blk, hg, Option.bind_some, Root.blk, hw, Option.map_some]
        have := H.cleanD k' q i _ _ hb
        rw [map_killC_cln this]

theorem Sto.owned_kill {s : Sto} {k : Key} {d : Nat} {k' : Key} : (s.kill k d).owned k' ↔ s.owned k' := by
  simp only [Sto.owned, Sto.get_kill]
  constructor
  · rintro ⟨r, h, hk⟩
    cases hg : s.get k' with
    | none => simp [hg] at h
    | some r' => rw [hg] at h; simp at h; subst h; exact ⟨r', rfl, by rwa [killR_kd] at hk⟩
  · rintro ⟨r, h, hk⟩; exact ⟨killR k d r, by simp [h], by rwa [killR_kd]⟩

/-- The frame of every step: each place comes of a place of before. -/
theorem HRel.build {X X' : EM} {s s' : Sto} {w w' : World} (H : HRel X s w) (f : Key → List Nat → Key × List Nat)
    (hf : ∀ k q e cs, s'.blkS k q = some (e, cs) → ∃ cs0, s.blkS (f k q).1 (f k q).2 = some (e, cs0) ∧ cs.length ≤ cs0.length ∧ X' k q = X (f k q).1 (f k q).2 ∧ (s'.owned k → s.owned (f k q).1))
    (hi : ∀ k q k' q', (s'.blkS k q).isSome → (s'.blkS k' q').isSome → f k q = f k' q' → k = k' ∧ q = q')
    (hw : ∀ a, (w.cell? a).isSome → (w'.cell? a).isSome ∧ w'.frozen? a = w.frozen? a)
    (cell : ∀ k p e cs, s'.blkS k p = some (e, cs) → ∀ i x, cs[i]? = some x → ∃ v, w'.cell? ((X' k p).at i) = some v ∧ HC X' s' k p i x v)
    (clean : ∀ k r, s'.get k = some r → r.kd ≠ .box → ∀ x ∈ r.cs, cln x = true)
    (cleanD : ∀ k p i e cs, s'.blkS k (i :: p) = some (e, cs) → ∀ x ∈ cs, cln x = true) : HRel X' s' w' where
  cell := cell
  clean := clean
  cleanD := cleanD
  room := fun k p e cs hb => by
    obtain ⟨cs0, h1, h2, h3, h4⟩ := hf k p e cs hb
    obtain ⟨h5, h6⟩ := H.room _ _ _ _ h1
    rw [h3]
    refine ⟨by omega, fun j hj => ?_⟩
    obtain ⟨h7, h8⟩ := h6 j hj
    obtain ⟨h9, h10⟩ := hw _ h7
    exact ⟨h9, fun ho => h10.trans (h8 (h4 ho))⟩
  apart := fun k p k' p' hb hb' ho hne j j' hj hj' => by
    obtain ⟨b, hb1⟩ := Option.isSome_iff_exists.1 hb
    obtain ⟨b', hb1'⟩ := Option.isSome_iff_exists.1 hb'
    obtain ⟨cs0, h1, _, h3, h4⟩ := hf k p _ _ hb1
    obtain ⟨cs0', h1', _, h3', _⟩ := hf k' p' _ _ hb1'
    rw [h3] at hj ⊢
    rw [h3'] at hj' ⊢
    refine H.apart _ _ _ _ (by rw [h1]; rfl) (by rw [h1']; rfl) (h4 ho) (fun hh => hne ?_) j j' hj hj'
    exact hi k p k' p' hb hb' (Prod.ext hh.1 hh.2)

theorem HRel.kill {X : EM} {s : Sto} {w : World} (H : HRel X s w) (k : Key) (d : Nat) : HRel X (s.kill k d) w := by
  have ht : ∀ k' p, Tr X s k' p X (s.kill k d) k' p := fun k' p e cs hb => ⟨cs.map (killC k d), by rw [H.blkS_kill, hb]; rfl, by simp, rfl⟩
  refine H.build (fun k q => (k, q)) (fun k' q e cs hb => ?_) (fun k q k' q' _ _ h => by simpa using h) (fun a h => ⟨h, rfl⟩) (fun k' p e cs hb i x hx => ?_) (fun k' r hg hk x hx => ?_) (fun k' p i e cs hb x hx => ?_)
  · rw [H.blkS_kill] at hb
    obtain ⟨⟨e0, cs0⟩, h1, h2⟩ := Option.map_eq_some_iff.1 hb
    simp at h2
    exact ⟨cs0, by rw [← h2.1]; exact h1, by rw [← h2.2]; simp, rfl, fun ho => Sto.owned_kill.1 ho⟩
  · rw [H.blkS_kill] at hb
    obtain ⟨⟨e0, cs0⟩, h1, h2⟩ := Option.map_eq_some_iff.1 hb
    simp at h2
    rw [← h2.2, List.getElem?_map] at hx
    obtain ⟨x0, hx0, rfl⟩ := Option.map_eq_some_iff.1 hx
    obtain ⟨v, hv, hc⟩ := H.cell k' p _ _ h1 i x0 hx0
    refine ⟨v, hv, ?_⟩
    have hl : VC X s x0 v → VC X (s.kill k d) (killC k d x0) v := VC_kill (fun k' p _ => ht k' p)
    cases hs : sub (some x0) with
    | none => exact HC_leaf (by rw [← hs]; exact sub_killC k d (some x0)) (hl ((HC_leaf' hs) hc))
    | some b =>
      cases x0 with
      | own e n cs => exact HC_tr hc (fun _ => ht _ _) (fun h => hl h)
      | obx cs => exact HC_tr hc (fun _ => ht _ _) (fun h => hl h)
      | _ => simp at hs
  · rw [Sto.get_kill] at hg
    obtain ⟨r0, h1, rfl⟩ := Option.map_eq_some_iff.1 hg
    rw [killR_kd] at hk
    rw [killR_cs (H.clean k' r0 h1)] at hx
    obtain ⟨x0, h2, rfl⟩ := List.mem_map.1 hx
    exact cln_killC (H.clean k' r0 h1 hk x0 h2)
  · rw [H.blkS_kill] at hb
    obtain ⟨⟨e0, cs0⟩, h1, h2⟩ := Option.map_eq_some_iff.1 hb
    simp at h2
    rw [← h2.2] at hx
    obtain ⟨x0, h3, rfl⟩ := List.mem_map.1 hx
    exact cln_killC (H.cleanD k' p i _ _ h1 x0 h3)
end Go.AK


/- One cell of a block is put aside, written, told, given what it owns. Conditions: none. -/
set_option linter.unusedSimpArgs false
namespace Go.AK
open Go

/-- Cell i of the block at (k, p) becomes x. -/
def Sto.put (s : Sto) (k : Key) (p : List Nat) (i : Nat) (x : Cell) : Sto :=
  match s.blk k p with
  | some b => s.setBlk k p (b.2.set i x)
  | none => s

theorem Sto.blkS_put (s : Sto) (k : Key) (p : List Nat) (i : Nat) (x : Cell) {e : Nat} {cs : List Cell} (h : s.blk k p = some (e, cs)) (hi : i < cs.length) (k' : Key) (q : List Nat) :
    (s.put k p i x).blkS k' q = if k = k' then (match strip p q with
      | some [] => some (e, (cs.map sh).set i (sh x))
      | some (j :: t) => if i = j then (sub (some x)).bind (walkS · t) else s.blkS k q
      | none => s.blkS k q) else s.blkS k' q := by
  unfold Sto.put
  rw [h]
  simp only
  rw [Sto.blkS_setBlk s k p _ h k' q]
  by_cases hk : k = k'
  · simp only [hk, if_true]
    cases hs : strip p q with
    | none => rfl
    | some r =>
      cases r with
      | nil => simp [walkS, shB, List.map_set]
      | cons j t =>
        simp only
        by_cases hj : i = j
        · subst hj
          simp only [if_true, walkS, walk, List.getElem?_set_self hi]
          cases hx : sub (some x) <;> rfl
        · simp only [hj, if_false, walkS, walk]
          rw [List.getElem?_set_ne hj]
          rw [strip_some hs]
          subst hk
          simp only [Sto.blkS, Sto.blk] at h ⊢
          cases hg : s.get k with
          | none => simp [hg] at h
          | some r =>
            simp only [hg, Option.bind_some, Root.blk] at h ⊢
            rw [walk_append, h]
            rfl
  · simp [hk]

theorem cln_repl (new : List Cell) (x : Cell) : cln (repl new x) = cln x := by cases x <;> rfl

theorem setw_clean {cs new : List Cell} {p : List Nat} (hp : p ≠ []) (h : ∀ x ∈ cs, cln x = true) : ∀ x ∈ setw cs new p, cln x = true := by
  cases p with
  | nil => exact absurd rfl hp
  | cons i p =>
    intro x hx
    simp only [setw] at hx
    cases hs : sub cs[i]? with
    | none => rw [hs] at hx; exact h x hx
    | some b =>
      rw [hs] at hx
      obtain ⟨j, hj⟩ := List.mem_iff_getElem?.1 hx
      rw [List.getElem?_modify] at hj
      cases hc : cs[j]? with
      | none => simp [hc] at hj
      | some y =>
        have hy := h y (List.mem_iff_getElem?.2 ⟨j, hc⟩)
        simp only [hc] at hj
        by_cases hij : i = j
        · simp [hij] at hj; rw [← hj, cln_repl]; exact hy
        · simp [hij] at hj; rw [← hj]; exact hy

theorem Sto.get_setBlk (s : Sto) (k : Key) (p : List Nat) (new : List Cell) (k' : Key) :
    (s.setBlk k p new).get k' = if k = k' then (s.get k).map (fun r => ⟨r.kd, r.e, setw r.cs new p⟩) else s.get k' := by
  unfold Sto.setBlk
  cases h : s.get k with
  | none => by_cases hk : k = k' <;> simp [hk]; subst hk; exact h
  | some r => simp only [Sto.get_set]; by_cases hk : k = k' <;> simp [hk]

theorem Sto.owned_put (s : Sto) (k : Key) (p : List Nat) (i : Nat) (x : Cell) (k' : Key) : (s.put k p i x).owned k' ↔ s.owned k' := by
  unfold Sto.put
  cases h : s.blk k p with
  | none => rfl
  | some b =>
    simp only [Sto.owned, Sto.get_setBlk]
    by_cases hk : k = k'
    · subst hk
      cases hg : s.get k with
      | none => simp
      | some r => simp
    · simp [hk]

/-- Whether something may lie in the block at (k, p). -/
def Sto.fits (s : Sto) (k : Key) (p : List Nat) (x : Cell) : Prop := cln x = true ∨ (p = [] ∧ ∃ r, s.get k = some r ∧ r.kd = .box)

theorem HRel.clean_put {X : EM} {s : Sto} {w : World} (H : HRel X s w) {k : Key} {p : List Nat} {i : Nat} {x : Cell} (hf : s.fits k p x) {e : Nat} {cs : List Cell} (hb : s.blk k p = some (e, cs)) :
    ∀ k' r, (s.put k p i x).get k' = some r → r.kd ≠ .box → ∀ y ∈ r.cs, cln y = true := by
  intro k' r hg hk y hy
  unfold Sto.put at hg
  rw [hb] at hg
  simp only [Sto.get_setBlk] at hg
  by_cases he : k = k'
  · subst he
    simp only [if_true] at hg
    obtain ⟨r0, h0, rfl⟩ := Option.map_eq_some_iff.1 hg
    simp only at hk hy
    have hc := H.clean k r0 h0 hk
    by_cases hp : p = []
    · subst hp
      simp only [setw] at hy
      simp only [Sto.blk, h0, Option.bind_some, Root.blk, walk, Option.some.injEq, Prod.mk.injEq] at hb
      rw [← hb.2] at hy
      rcases List.mem_or_eq_of_mem_set hy with h | h
      · exact hc y h
      · subst h
        rcases hf with hf | ⟨_, r', h1, h2⟩
        · exact hf
        · rw [h0] at h1; cases h1; exact absurd h2 hk
    · exact setw_clean hp hc y hy
  · simp only [he, if_false] at hg
    exact H.clean k' r hg hk y hy

/-- What a leaf names. -/
def names : Cell → Key → List Nat → Prop
  | .fn _ caps, k, p => ∃ c ∈ caps, names1 c k p
  | .ifc _ c, k, p => names1 c k p
  | x, k, p => names1 x k p

theorem all2.imp' {α β : Type} {R R' : α → β → Prop} {l : List α} {m : List β} (h : ∀ a b, a ∈ l → R a b → R' a b) (hl : all2 R l m) : all2 R' l m := by
  have := all2.imp (R' := R') id h hl
  simpa using this

theorem VC_tr {X X' : EM} {s s' : Sto} {x : Cell} {v : Value} (h : ∀ k p, names x k p → Tr X s k p X' s' k p) (hv : VC X s x v) : VC X' s' x v := by
  cases x with
  | fn f caps => obtain ⟨vs, rfl, hf⟩ := hv; exact ⟨vs, rfl, all2.imp' (fun a b ha hr => VC1_tr (fun k p hn => h k p ⟨a, ha, hn⟩) hr) hf⟩
  | ifc t c => obtain ⟨u, rfl, hu⟩ := hv; exact ⟨u, rfl, VC1_tr h hu⟩
  | sc u => exact hv
  | ref k p off n => exact VC1_ref (h k p ⟨rfl, rfl⟩) hv
  | ptr k p c => exact VC1_ptr (h k p ⟨rfl, rfl⟩) hv
  | dead => trivial
  | own e n cs => exact hv
  | obx cs => exact hv

/-- Nobody names a place of root k that is d steps deep, or deeper. -/
def NoN (s : Sto) (k : Key) (d : Nat) : Prop := ∀ k' p e cs, s.blkS k' p = some (e, cs) → ∀ x ∈ cs, ∀ q, names x k q → q.length < d

theorem names1_kill {k : Key} {d : Nat} {x : Cell} {q : List Nat} (h : names1 (kill1 k d x) k q) : q.length < d := by
  cases x with
  | ref k' p off n =>
    simp only [kill1] at h
    by_cases hk : k' = k ∧ d ≤ p.length
    · rw [if_pos hk] at h; exact h.elim
    · rw [if_neg hk] at h; obtain ⟨h1, h2⟩ := h; subst h2; exact Nat.lt_of_not_le fun hh => hk ⟨h1, hh⟩
  | ptr k' p c =>
    simp only [kill1] at h
    by_cases hk : k' = k ∧ d ≤ p.length
    · rw [if_pos hk] at h; exact h.elim
    · rw [if_neg hk] at h; obtain ⟨h1, h2⟩ := h; subst h2; exact Nat.lt_of_not_le fun hh => hk ⟨h1, hh⟩
  | _ => exact h.elim
theorem names_kill {k : Key} {d : Nat} {x : Cell} {q : List Nat} (h : names (killC k d x) k q) : q.length < d := by
  cases x with
  | fn f caps => obtain ⟨c, hc, hn⟩ := h; obtain ⟨c0, _, rfl⟩ := List.mem_map.1 hc; exact names1_kill hn
  | ifc t c => exact names1_kill h
  | ref k' p off n =>
    have hh : names1 (kill1 k d (.ref k' p off n)) k q := by
      simp only [killC, kill1] at h ⊢
      by_cases hk : k' = k ∧ d ≤ p.length
      · rw [if_pos hk] at h ⊢; exact h
      · rw [if_neg hk] at h ⊢; exact h
    exact names1_kill hh
  | ptr k' p c =>
    have hh : names1 (kill1 k d (.ptr k' p c)) k q := by
      simp only [killC, kill1] at h ⊢
      by_cases hk : k' = k ∧ d ≤ p.length
      · rw [if_pos hk] at h ⊢; exact h
      · rw [if_neg hk] at h ⊢; exact h
    exact names1_kill hh
  | _ => exact h.elim
theorem HRel.noN_kill {X : EM} {s : Sto} {w : World} (H : HRel X s w) (k : Key) (d : Nat) : NoN (s.kill k d) k d := by
  intro k' p e cs hb x hx q hn
  rw [H.blkS_kill] at hb
  obtain ⟨⟨e0, cs0⟩, h1, h2⟩ := Option.map_eq_some_iff.1 hb
  simp at h2
  rw [← h2.2] at hx
  obtain ⟨x0, _, rfl⟩ := List.mem_map.1 hx
  exact names_kill hn

theorem Sto.blkS_del (s : Sto) (k k' : Key) (p : List Nat) : (s.del k).blkS k' p = if k = k' then none else s.blkS k' p := by
  simp only [Sto.blkS, Sto.blk, Sto.get_del]; by_cases h : k = k' <;> simp [h]

theorem HRel.del {X : EM} {s : Sto} {w : World} (H : HRel X s w) {k : Key} (hn : NoN s k 0) : HRel X (s.del k) w := by
  have hb0 : ∀ {k' p e cs}, (s.del k).blkS k' p = some (e, cs) → k ≠ k' ∧ s.blkS k' p = some (e, cs) := by
    intro k' p e cs hb
    rw [Sto.blkS_del] at hb
    by_cases h : k = k'
    · simp [h] at hb
    · simp [h] at hb; exact ⟨h, hb⟩
  have ht : ∀ k' p, k ≠ k' → Tr X s k' p X (s.del k) k' p := fun k' p h => Tr.eq (by rw [Sto.blkS_del, if_neg h])
  refine H.build (fun k q => (k, q)) (fun k' q e cs hb => ?_) (fun k q k' q' _ _ h => by simpa using h) (fun a h => ⟨h, rfl⟩) (fun k' p e cs hb i x hx => ?_) (fun k' r hg hk x hx => ?_) (fun k' p i e cs hb x hx => ?_)
  · obtain ⟨h1, h2⟩ := hb0 hb
    refine ⟨cs, h2, Nat.le_refl _, rfl, fun ⟨r, hr, hk⟩ => ⟨r, ?_, hk⟩⟩
    rw [Sto.get_del, if_neg h1] at hr; exact hr
  · obtain ⟨h1, h2⟩ := hb0 hb
    obtain ⟨v, hv, hc⟩ := H.cell k' p _ _ h2 i x hx
    exact ⟨v, hv, HC_tr hc (fun _ => ht _ _ h1) (fun h => VC_tr (fun k'' q hq => ht _ _ (fun he => by subst he; exact absurd (hn k' p e cs h2 x (List.mem_iff_getElem?.2 ⟨i, hx⟩) q hq) (by omega))) h)⟩
  · rw [Sto.get_del] at hg
    by_cases h : k = k'
    · simp [h] at hg
    · simp [h] at hg; exact H.clean k' r hg hk x hx
  · exact H.cleanD k' p i e cs (hb0 hb).2 x hx

theorem Sto.blkS_of_blk {s : Sto} {k : Key} {p : List Nat} {e : Nat} {cs : List Cell} (h : s.blk k p = some (e, cs)) : s.blkS k p = some (e, cs.map sh) := by simp only [Sto.blkS, h]; rfl

theorem HRel.cleanD_put {X : EM} {s : Sto} {w : World} (H : HRel X s w) {k : Key} {p : List Nat} {i : Nat} {x : Cell} (hf : s.fits k p x) {e : Nat} {cs : List Cell} (hb : s.blk k p = some (e, cs)) (hi : i < cs.length)
    (hs : ∀ t e' cs', (sub (some x)).bind (walkS · t) = some (e', cs') → ∀ y ∈ cs', cln y = true) :
    ∀ k' q j e' cs', (s.put k p i x).blkS k' (j :: q) = some (e', cs') → ∀ y ∈ cs', cln y = true := by
  intro k' q j e' cs' hq y hy
  rw [Sto.blkS_put s k p i x hb hi] at hq
  by_cases hk : k = k'
  · subst hk
    simp only [if_true] at hq
    cases ht : strip p (j :: q) with
    | none => rw [ht] at hq; exact H.cleanD k q j e' cs' hq y hy
    | some r =>
      rw [ht] at hq
      cases r with
      | nil =>
        simp only [Option.some.injEq, Prod.mk.injEq] at hq
        have hpq := strip_some ht
        simp only [List.append_nil] at hpq
        have hbs := Sto.blkS_of_blk hb
        rw [← hpq] at hbs
        rw [← hq.2] at hy
        rcases List.mem_or_eq_of_mem_set hy with h | h
        · exact H.cleanD k q j e _ hbs y h
        · subst h
          rw [cln_sh]
          rcases hf with hf | ⟨hp, _⟩
          · exact hf
          · rw [hp] at hpq; simp at hpq
      | cons a t =>
        simp only at hq
        by_cases ha : i = a
        · simp only [ha, if_true] at hq; exact hs t e' cs' hq y hy
        · simp only [ha, if_false] at hq; exact H.cleanD k q j e' cs' hq y hy
  · simp only [hk, if_false] at hq
    exact H.cleanD k' q j e' cs' hq y hy
end Go.AK


/- A cell becomes a leaf; a root becomes what a cell owns; what a cell owns becomes a root. Conditions: none. -/
set_option linter.unusedSimpArgs false
set_option linter.unusedVariables false
namespace Go.AK
open Go

theorem getElem?_len {α : Type} {l : List α} {i : Nat} {x : α} (h : l[i]? = some x) : i < l.length := by
  rcases Nat.lt_or_ge i l.length with h' | h'
  · exact h'
  · simp [List.getElem?_eq_none h'] at h

/-- Behind a put every place is there that does not lie behind the cell. -/
theorem Tr_put {X : EM} {s : Sto} {k : Key} {p : List Nat} {i : Nat} {x : Cell} {e : Nat} {cs : List Cell} (hb : s.blk k p = some (e, cs)) (hi : i < cs.length)
    (k' : Key) (q : List Nat) (h : ∀ t, ¬ (k = k' ∧ strip p q = some (i :: t)) ∨ sub cs[i]? = none) : Tr X s k' q X (s.put k p i x) k' q := by
  intro e' cs' hq
  have hput := Sto.blkS_put s k p i x hb hi k' q
  by_cases hk : k = k'
  · subst hk
    simp only [if_true] at hput
    cases hs : strip p q with
    | none => rw [hs] at hput; exact ⟨cs', hput.trans hq, rfl, rfl⟩
    | some r =>
      cases r with
      | nil =>
        rw [hs] at hput
        have hpq := strip_some hs
        simp only [List.append_nil] at hpq
        subst hpq
        rw [Sto.blkS_of_blk hb] at hq
        simp only [Option.some.injEq, Prod.mk.injEq] at hq
        obtain ⟨rfl, rfl⟩ := hq
        exact ⟨_, hput, by simp, rfl⟩
      | cons j t =>
        rw [hs] at hput
        by_cases hj : i = j
        · subst hj
          rcases h t with h1 | h1
          · exact absurd ⟨rfl, hs⟩ h1
          · exfalso
            have hpq := strip_some hs
            subst hpq
            simp only [Sto.blkS, Sto.blk] at hb hq
            cases hg : s.get k with
            | none => simp [hg] at hb
            | some r =>
              simp only [hg, Option.bind_some, Root.blk] at hb hq
              have hn : walk (e, cs) (i :: t) = none := by
                show (sub cs[i]?).bind _ = none
                rw [h1]; rfl
              rw [walk_append, hb, Option.bind_some, hn] at hq
              cases hq
        · simp only [hj, if_false] at hput; exact ⟨cs', hput.trans hq, rfl, rfl⟩
  · simp only [hk, if_false] at hput; exact ⟨cs', hput.trans hq, rfl, rfl⟩

theorem blkS_under {s : Sto} {k : Key} {p : List Nat} {e : Nat} {cs : List Cell} (hb : s.blk k p = some (e, cs)) (r : List Nat) : s.blkS k (p ++ r) = walkS (e, cs) r := by
  simp only [Sto.blkS, Sto.blk] at hb ⊢
  cases hg : s.get k with
  | none => simp [hg] at hb
  | some q =>
    simp only [hg, Option.bind_some, Root.blk] at hb ⊢
    rw [walk_append, hb]; rfl

theorem HRel.put0 {X : EM} {s : Sto} {w : World} (H : HRel X s w) {k : Key} {p : List Nat} {i : Nat} {x : Cell} {e : Nat} {cs : List Cell} (hb : s.blk k p = some (e, cs)) (hi : i < cs.length)
    (hx : sub (some x) = none) (hf : s.fits k p x) (ho : sub cs[i]? = none ∨ NoN s k (p.length + 1)) {w' : World}
    (hw : ∀ a, a ≠ (X k p).at i → w'.cell? a = w.cell? a) (hfz : ∀ a, w'.frozen? a = w.frozen? a) (hv : ∃ v, w'.cell? ((X k p).at i) = some v ∧ VC X (s.put k p i x) x v) (hown : w' = w ∨ s.owned k) :
    HRel X (s.put k p i x) w' := by
  have hbs := Sto.blkS_of_blk hb
  have hput := Sto.blkS_put s k p i x hb hi
  -- each place of now is a place of before
  have back : ∀ k' q e' cs', (s.put k p i x).blkS k' q = some (e', cs') →
      (k = k' ∧ q = p ∧ e' = e ∧ cs' = (cs.map sh).set i (sh x)) ∨ (s.blkS k' q = some (e', cs') ∧ ¬ (k = k' ∧ q = p) ∧ ∀ t, ¬ (k = k' ∧ strip p q = some (i :: t))) := by
    intro k' q e' cs' h
    rw [hput] at h
    by_cases hk : k = k'
    · subst hk
      simp only [if_true] at h
      cases hs : strip p q with
      | none =>
        rw [hs] at h
        refine .inr ⟨h, fun hh => ?_, fun t hh => by simp at hh⟩
        rw [hh.2] at hs
        have := strip_append p []
        simp only [List.append_nil] at this
        rw [this] at hs; cases hs
      | some r =>
        rw [hs] at h
        cases r with
        | nil =>
          simp only [Option.some.injEq, Prod.mk.injEq] at h
          exact .inl ⟨rfl, by simpa using strip_some hs, h.1.symm, h.2.symm⟩
        | cons j t =>
          simp only at h
          by_cases hj : i = j
          · subst hj; simp [hx] at h
          · simp only [hj, if_false] at h
            refine .inr ⟨h, fun hh => ?_, fun t' hh => ?_⟩
            · have := strip_append p []
              simp only [List.append_nil] at this
              rw [hh.2, this] at hs; cases hs
            · simp at hh; exact hj hh.1.symm
    · simp only [hk, if_false] at h
      exact .inr ⟨h, fun hh => hk hh.1, fun t hh => hk hh.1⟩
  have tr : ∀ k' q, (k = k' → q.length < p.length + 1) ∨ sub cs[i]? = none → Tr X s k' q X (s.put k p i x) k' q := fun k' q h => Tr_put hb hi k' q fun t => by
    rcases h with h | h
    · refine .inl fun hh => ?_
      have := strip_some hh.2
      have h2 := h hh.1
      rw [this] at h2; simp at h2
    · exact .inr h
  have leaf : ∀ y v, (∀ q, names y k q → q.length < p.length + 1) ∨ sub cs[i]? = none → VC X s y v → VC X (s.put k p i x) y v := fun y v h hv => VC_tr (fun k' q hq => tr k' q (by
    rcases h with h | h
    · exact .inl fun hk => by subst hk; exact h q hq
    · exact .inr h)) hv
  have nn : ∀ k' q e' cs', s.blkS k' q = some (e', cs') → ∀ y ∈ cs', (∀ q, names y k q → q.length < p.length + 1) ∨ sub cs[i]? = none := fun k' q e' cs' h y hy => by
    rcases ho with h1 | h1
    · exact .inr h1
    · exact .inl fun q' hq => h1 k' q e' cs' h y hy q' hq
  refine H.build (fun k q => (k, q)) (fun k' q e' cs' h => ?_) (fun k q k' q' _ _ h => by simpa using h) (fun a h => ⟨?_, hfz a⟩) (fun k' q e' cs' h j y hy => ?_) (H.clean_put hf hb) (H.cleanD_put hf hb hi (by rw [hx]; simp))
  · rcases back k' q e' cs' h with ⟨rfl, rfl, rfl, rfl⟩ | ⟨h1, _, _⟩
    · exact ⟨_, hbs, by simp, rfl, (Sto.owned_put s k q i x k).1⟩
    · exact ⟨_, h1, Nat.le_refl _, rfl, (Sto.owned_put s k p i x k').1⟩
  · by_cases ha : a = (X k p).at i
    · obtain ⟨v, h1, _⟩ := hv; rw [ha, h1]; rfl
    · rw [hw a ha]; exact h
  · rcases back k' q e' cs' h with ⟨rfl, rfl, rfl, rfl⟩ | ⟨h1, h2, h3⟩
    · by_cases hj : i = j
      · subst hj
        rw [List.getElem?_set_self (by simpa using hi)] at hy
        simp only [Option.some.injEq] at hy
        subst hy
        obtain ⟨v, hv1, hv2⟩ := hv
        refine ⟨v, hv1, HC_leaf ?_ ?_⟩
        · cases x <;> first | rfl | (simp at hx)
        · cases x <;> first | exact hv2 | (simp at hx)
      · rw [List.getElem?_set_ne hj] at hy
        obtain ⟨v, hv1, hv2⟩ := H.cell k q _ _ hbs j y hy
        refine ⟨v, ?_, HC_tr hv2 (fun _ => Tr_put hb hi _ _ fun t => .inl fun hh => ?_) (leaf y v (nn _ _ _ _ hbs y (List.mem_iff_getElem?.2 ⟨j, hy⟩)))⟩
        · rw [hw _ (fun hh => hj (Ext.at_inj hh).symm)]; exact hv1
        · rw [strip_append] at hh; simp at hh; exact hj hh.1.symm
    · obtain ⟨v, hv1, hv2⟩ := H.cell k' q _ _ h1 j y hy
      refine ⟨v, ?_, HC_tr hv2 (fun ho => ?_) (leaf y v (nn _ _ _ _ h1 y (List.mem_iff_getElem?.2 ⟨j, hy⟩)))⟩
      · rcases hown with rfl | hown
        · exact hv1
        · rw [hw _ (fun hh => ?_)]; exact hv1
          have hl := (H.room _ _ _ _ hbs).1
          have hl' := (H.room _ _ _ _ h1).1
          have hjl := getElem?_len hy
          exact H.apart k p k' q (by rw [hbs]; rfl) (by rw [h1]; rfl) hown (fun hh => h2 ⟨hh.1, hh.2.symm⟩) i j (by simp at hl; omega) (by omega) hh.symm
      · refine Tr_put hb hi _ _ fun t => .inl fun hh => ?_
        -- the child lies behind the cell: so does its parent, or it is the parent
        obtain ⟨hk, hs⟩ := hh
        have hq := strip_some hs
        rcases List.eq_nil_or_concat t with rfl | ⟨t', a, rfl⟩
        · have : q = p ∧ j = i := by
            have := List.append_inj' hq rfl
            simpa using this
          exact h2 ⟨hk, this.1⟩
        · have : q = p ++ i :: t' := by
            have h4 : q ++ [j] = (p ++ i :: t') ++ [a] := by rw [hq]; simp
            exact (List.append_inj' h4 rfl).1
          exact h3 t' ⟨hk, by rw [this, strip_append]⟩
end Go.AK


/- A root becomes what a cell owns; what a cell owns becomes a root. Conditions: none. -/
set_option linter.unusedSimpArgs false
set_option linter.unusedVariables false
namespace Go.AK
open Go

theorem strip_snoc (p : List Nat) (i : Nat) (q t : List Nat) : strip (p ++ [i]) q = some t ↔ strip p q = some (i :: t) := by
  constructor
  · intro h
    have := strip_some h
    subst this
    rw [List.append_assoc]
    exact strip_append p _
  · intro h
    have := strip_some h
    subst this
    have := strip_append (p ++ [i]) t
    rwa [List.append_assoc] at this
/-- Addresses behind a cell (k, p, i) are those of the root K. -/
def EM.graft (X : EM) (K k : Key) (p : List Nat) (i : Nat) : EM := fun k' q => if k = k' then (match strip (p ++ [i]) q with
  | some t => X K t
  | none => X k' q) else X k' q
def origin (K k : Key) (p : List Nat) (i : Nat) (k' : Key) (q : List Nat) : Key × List Nat := if k = k' then (match strip (p ++ [i]) q with
  | some t => (K, t)
  | none => (k', q)) else (k', q)

theorem EM.graft_eq (X : EM) (K k : Key) (p : List Nat) (i : Nat) (k' : Key) (q : List Nat) : X.graft K k p i k' q = X (origin K k p i k' q).1 (origin K k p i k' q).2 := by
  unfold EM.graft origin
  by_cases h : k = k'
  · simp only [h, if_true]; cases strip (p ++ [i]) q <;> rfl
  · simp [h]

theorem blk_del {s : Sto} {K k : Key} (h : K ≠ k) (p : List Nat) : (s.del K).blk k p = s.blk k p := by simp only [Sto.blk, Sto.get_del, if_neg h]

theorem HRel.attach {X : EM} {s : Sto} {w : World} (H : HRel X s w) {K : Key} {r : Root} (hK : s.get K = some r) (hkd : r.kd ≠ .fz) (hcl : ∀ y ∈ r.cs, cln y = true) (hn : NoN s K 0)
    {k : Key} (hne : K ≠ k) {p : List Nat} {i : Nat} {e : Nat} {cs : List Cell} (hb : s.blk k p = some (e, cs)) (hi : i < cs.length) (hold : sub cs[i]? = none)
    {x : Cell} (hx : sub (some x) = some (r.e, r.cs)) (hxc : cln x = true) {v : Value} (hv : w.cell? ((X k p).at i) = some v)
    (hxv : ∀ X' s', Tr X s K [] X' s' k (p ++ [i]) → HC X' s' k p i x v) :
    HRel (X.graft K k p i) ((s.del K).put k p i x) w ∧ ∀ k' q, K ≠ k' → Tr X s k' q (X.graft K k p i) ((s.del K).put k p i x) k' q := by
  have hb' : (s.del K).blk k p = some (e, cs) := by rw [blk_del hne]; exact hb
  have hput := Sto.blkS_put (s.del K) k p i x hb' hi
  have hsubS : ∀ t, (sub (some x)).bind (walkS · t) = s.blkS K t := fun t => by
    rw [hx]; simp only [Option.bind_some, Sto.blkS, Sto.blk, hK, Root.blk]; rfl
  -- where a place of now comes of
  have orig : ∀ k' q e' cs', ((s.del K).put k p i x).blkS k' q = some (e', cs') →
      (k = k' ∧ q = p ∧ e' = e ∧ cs' = (cs.map sh).set i (sh x)) ∨
      (∃ t, k = k' ∧ strip (p ++ [i]) q = some t ∧ s.blkS K t = some (e', cs')) ∨
      (s.blkS k' q = some (e', cs') ∧ K ≠ k' ∧ ¬ (k = k' ∧ q = p) ∧ (k = k' → strip (p ++ [i]) q = none)) := by
    intro k' q e' cs' h
    rw [hput] at h
    by_cases hk : k = k'
    · subst hk
      simp only [if_true] at h
      cases hs : strip p q with
      | none =>
        rw [hs] at h
        simp only [Sto.blkS_del, if_neg hne] at h
        refine .inr (.inr ⟨h, hne, fun hh => ?_, fun _ => ?_⟩)
        · rw [hh.2] at hs
          have := strip_append p []
          simp only [List.append_nil] at this
          rw [this] at hs; cases hs
        · cases h2 : strip (p ++ [i]) q with
          | none => rfl
          | some t => rw [(strip_snoc p i q t).1 h2] at hs; cases hs
      | some u =>
        rw [hs] at h
        cases u with
        | nil =>
          simp only [Option.some.injEq, Prod.mk.injEq] at h
          exact .inl ⟨rfl, by simpa using strip_some hs, h.1.symm, h.2.symm⟩
        | cons j t =>
          simp only at h
          by_cases hj : i = j
          · subst hj
            simp only [if_true] at h
            rw [hsubS] at h
            exact .inr (.inl ⟨t, rfl, (strip_snoc p i q t).2 hs, h⟩)
          · simp only [hj, if_false, Sto.blkS_del, if_neg hne] at h
            refine .inr (.inr ⟨h, hne, fun hh => ?_, fun _ => ?_⟩)
            · have := strip_append p []
              simp only [List.append_nil] at this
              rw [hh.2, this] at hs; cases hs
            · cases h2 : strip (p ++ [i]) q with
              | none => rfl
              | some t' => rw [(strip_snoc p i q t').1 h2] at hs; simp at hs; exact absurd hs.1 hj
    · simp only [hk, if_false, Sto.blkS_del] at h
      by_cases hKk : K = k'
      · simp [hKk] at h
      · simp only [hKk, if_false] at h
        exact .inr (.inr ⟨h, hKk, fun hh => hk hh.1, fun hh => absurd hh hk⟩)
  have hbs := Sto.blkS_of_blk hb
  have gN : ∀ k' q, (k = k' → strip (p ++ [i]) q = none) → (X.graft K k p i) k' q = X k' q := fun k' q h => by
    unfold EM.graft; by_cases hk : k = k'
    · simp only [hk, if_true]; rw [h hk]
    · simp [hk]
  have gS : ∀ q t, strip (p ++ [i]) q = some t → (X.graft K k p i) k q = X K t := fun q t h => by unfold EM.graft; simp only [if_true]; rw [h]
  have pN : strip (p ++ [i]) p = none := by
    cases h : strip (p ++ [i]) p with
    | none => rfl
    | some t => have := congrArg List.length (strip_some h); simp at this
  -- each place but K's is there still
  have tr : ∀ k' q, K ≠ k' → Tr X s k' q (X.graft K k p i) ((s.del K).put k p i x) k' q := by
    intro k' q hKk e' cs' hq
    have h2 := hput k' q
    by_cases hk : k = k'
    · subst hk
      simp only [if_true] at h2
      cases hs : strip p q with
      | none =>
        rw [hs] at h2
        simp only [Sto.blkS_del, if_neg hne] at h2
        refine ⟨cs', h2.trans hq, rfl, gN _ _ fun _ => ?_⟩
        cases h3 : strip (p ++ [i]) q with
        | none => rfl
        | some t => rw [(strip_snoc p i q t).1 h3] at hs; cases hs
      | some u =>
        rw [hs] at h2
        cases u with
        | nil =>
          have hpq : q = p := by simpa using strip_some hs
          subst hpq
          rw [hbs] at hq
          simp only [Option.some.injEq, Prod.mk.injEq] at hq
          obtain ⟨rfl, rfl⟩ := hq
          exact ⟨_, h2, by simp, gN _ _ fun _ => pN⟩
        | cons j t =>
          simp only at h2
          by_cases hj : i = j
          · subst hj
            exfalso
            have hpq := strip_some hs
            subst hpq
            rw [blkS_under hb] at hq
            have hnn : walkS (e, cs) (i :: t) = none := by
              show (walk (e, cs) (i :: t)).map _ = none
              have : walk (e, cs) (i :: t) = none := by
                show (sub cs[i]?).bind _ = none
                rw [hold]; rfl
              rw [this]; rfl
            rw [hnn] at hq; cases hq
          · simp only [hj, if_false, Sto.blkS_del, if_neg hne] at h2
            refine ⟨cs', h2.trans hq, rfl, gN _ _ fun _ => ?_⟩
            cases h3 : strip (p ++ [i]) q with
            | none => rfl
            | some t' => rw [(strip_snoc p i q t').1 h3] at hs; simp at hs; exact absurd hs.1 hj
    · simp only [hk, if_false, Sto.blkS_del, if_neg hKk] at h2
      exact ⟨cs', h2.trans hq, rfl, gN _ _ fun hh => absurd hh hk⟩
  have trK : ∀ t, Tr X s K t (X.graft K k p i) ((s.del K).put k p i x) k (p ++ [i] ++ t) := by
    intro t e' cs' hq
    have h2 := hput k (p ++ [i] ++ t)
    have h3 : strip p (p ++ [i] ++ t) = some (i :: t) := by rw [List.append_assoc]; exact strip_append p _
    simp only [if_true, h3] at h2
    rw [hsubS] at h2
    exact ⟨cs', h2.trans hq, rfl, gS _ _ (strip_append _ _)⟩
  have leaf : ∀ k' q e' cs', s.blkS k' q = some (e', cs') → ∀ y ∈ cs', ∀ v, VC X s y v → VC (X.graft K k p i) ((s.del K).put k p i x) y v := fun k' q e' cs' h y hy v hv =>
    VC_tr (fun k'' q' hq => tr k'' q' fun hh => by subst hh; exact absurd (hn k' q e' cs' h y hy q' hq) (by omega)) hv
  have ownd : ∀ k', ((s.del K).put k p i x).owned k' → s.owned k' := fun k' h => by
    rw [Sto.owned_put] at h
    obtain ⟨r', h1, h2⟩ := h
    rw [Sto.get_del] at h1
    by_cases hh : K = k'
    · simp [hh] at h1
    · simp [hh] at h1; exact ⟨r', h1, h2⟩
  refine ⟨H.build (origin K k p i) (fun k' q e' cs' h => ?_) (fun k1 q1 k2 q2 h1 h2 h => ?_) (fun a h => ⟨h, rfl⟩) (fun k' q e' cs' h j y hy => ?_) ?_ ?_, tr⟩
  · rcases orig k' q e' cs' h with ⟨rfl, rfl, rfl, rfl⟩ | ⟨t, rfl, h1, h2⟩ | ⟨h1, h2, h3, h4⟩
    · have ho : origin K k q i k q = (k, q) := by unfold origin; simp only [if_true]; rw [pN]
      rw [EM.graft_eq, ho]
      exact ⟨_, hbs, by simp, rfl, ownd k⟩
    · have ho : origin K k p i k q = (K, t) := by unfold origin; simp only [if_true]; rw [h1]
      rw [EM.graft_eq, ho]
      exact ⟨_, h2, Nat.le_refl _, rfl, fun _ => ⟨r, hK, hkd⟩⟩
    · have ho : origin K k p i k' q = (k', q) := by
        unfold origin; by_cases hk : k = k'
        · simp only [hk, if_true]; rw [h4 hk]
        · simp [hk]
      rw [EM.graft_eq, ho]
      exact ⟨_, h1, Nat.le_refl _, rfl, ownd k'⟩
  · -- origins are apart
    have key : ∀ k' q, (((s.del K).put k p i x).blkS k' q).isSome → (origin K k p i k' q = (k', q) ∧ K ≠ k' ∧ (k = k' → strip (p ++ [i]) q = none)) ∨ (∃ t, k = k' ∧ strip (p ++ [i]) q = some t ∧ origin K k p i k' q = (K, t)) := by
      intro k' q hh
      obtain ⟨b, hh⟩ := Option.isSome_iff_exists.1 hh
      rcases orig k' q b.1 b.2 hh with ⟨rfl, rfl, _, _⟩ | ⟨t, rfl, h1, h2⟩ | ⟨h1, h2, h3, h4⟩
      · exact .inl ⟨by unfold origin; simp only [if_true]; rw [pN], hne, fun _ => pN⟩
      · exact .inr ⟨t, rfl, h1, by unfold origin; simp only [if_true]; rw [h1]⟩
      · refine .inl ⟨?_, h2, h4⟩
        unfold origin; by_cases hk : k = k'
        · simp only [hk, if_true]; rw [h4 hk]
        · simp [hk]
    rcases key k1 q1 h1 with ⟨a1, a2, a3⟩ | ⟨t1, a1, a2, a3⟩ <;> rcases key k2 q2 h2 with ⟨b1, b2, b3⟩ | ⟨t2, b1, b2, b3⟩
    · rw [a1, b1] at h; simpa using h
    · rw [a1, b3] at h; simp at h; exact absurd h.1.symm a2
    · rw [a3, b1] at h; simp at h; exact absurd h.1 b2
    · rw [a3, b3] at h
      simp at h
      subst h a1 b1
      have e1 := strip_some a2
      have e2 := strip_some b2
      exact ⟨rfl, e1.trans e2.symm⟩
  · rcases orig k' q e' cs' h with ⟨rfl, rfl, rfl, rfl⟩ | ⟨t, rfl, h1, h2⟩ | ⟨h1, h2, h3, h4⟩
    · rw [gN k q fun _ => pN]
      by_cases hj : i = j
      · subst hj
        rw [List.getElem?_set_self (by simpa using hi)] at hy
        simp only [Option.some.injEq] at hy
        subst hy
        have h5 := hxv (X.graft K k q i) ((s.del K).put k q i x) (by simpa using trK [])
        refine ⟨v, hv, ?_⟩
        cases x <;> first | exact h5 | (simp at hx)
      · rw [List.getElem?_set_ne hj] at hy
        obtain ⟨v, hv1, hv2⟩ := H.cell k q _ _ hbs j y hy
        exact ⟨v, hv1, HC_tr hv2 (fun _ => tr _ _ hne) (leaf _ _ _ _ hbs y (List.mem_iff_getElem?.2 ⟨j, hy⟩) v)⟩
    · rw [gS q t h1]
      obtain ⟨v, hv1, hv2⟩ := H.cell K t _ _ h2 j y hy
      have hq := strip_some h1
      subst hq
      refine ⟨v, hv1, HC_tr hv2 (fun _ => ?_) (fun hl => ?_)⟩
      · have := trK (t ++ [j]); rw [← List.append_assoc] at this; exact this
      · -- what lies under K is clean
        refine VC_cln ?_ hl
        cases t with
        | nil =>
          simp only [Sto.blkS, Sto.blk, hK, Option.bind_some, Root.blk, walk, Option.map_some, shB, Option.some.injEq, Prod.mk.injEq] at h2
          obtain ⟨y0, hy0, rfl⟩ := List.mem_map.1 (h2.2 ▸ List.mem_iff_getElem?.2 ⟨j, hy⟩ : y ∈ r.cs.map sh)
          rw [cln_sh]; exact hcl y0 hy0
        | cons a t => exact H.cleanD K t a _ _ h2 y (List.mem_iff_getElem?.2 ⟨j, hy⟩)
    · rw [gN k' q h4]
      obtain ⟨v, hv1, hv2⟩ := H.cell k' q _ _ h1 j y hy
      exact ⟨v, hv1, HC_tr hv2 (fun _ => tr _ _ h2) (leaf _ _ _ _ h1 y (List.mem_iff_getElem?.2 ⟨j, hy⟩) v)⟩
  · intro k' r' hg hk y hy
    unfold Sto.put at hg
    rw [hb'] at hg
    simp only [Sto.get_setBlk, Sto.get_del] at hg
    by_cases he : k = k'
    · subst he
      simp only [if_true, if_neg hne] at hg
      obtain ⟨r0, h0, rfl⟩ := Option.map_eq_some_iff.1 hg
      simp only at hk hy
      have hc := H.clean k r0 h0 hk
      by_cases hp : p = []
      · subst hp
        simp only [setw] at hy
        simp only [Sto.blk, h0, Option.bind_some, Root.blk, walk, Option.some.injEq, Prod.mk.injEq] at hb
        rw [← hb.2] at hy
        rcases List.mem_or_eq_of_mem_set hy with h | h
        · exact hc y h
        · subst h; exact hxc
      · exact setw_clean hp hc y hy
    · simp only [he, if_false] at hg
      by_cases hh : K = k'
      · simp [hh] at hg
      · simp [hh] at hg; exact H.clean k' r' hg hk y hy
  · intro k' q j e' cs' h y hy
    rcases orig k' (j :: q) e' cs' h with ⟨rfl, hq, rfl, rfl⟩ | ⟨t, rfl, h1, h2⟩ | ⟨h1, h2, h3, h4⟩
    · rcases List.mem_or_eq_of_mem_set hy with h | h
      · rw [← hq] at hbs; exact H.cleanD _ _ _ _ _ hbs y h
      · subst h; rw [cln_sh]; exact hxc
    · cases t with
      | nil =>
        simp only [Sto.blkS, Sto.blk, hK, Option.bind_some, Root.blk, walk, Option.map_some, shB, Option.some.injEq, Prod.mk.injEq] at h2
        obtain ⟨y0, hy0, rfl⟩ := List.mem_map.1 (h2.2 ▸ hy : y ∈ r.cs.map sh)
        rw [cln_sh]; exact hcl y0 hy0
      | cons a t => exact H.cleanD K t a _ _ h2 y hy
    · exact H.cleanD k' q j _ _ h1 y hy
end Go.AK


/- What a cell owns becomes a root; stores that hold the same roots; a new root; a list that grows. Conditions: none. -/
set_option linter.unusedSimpArgs false
set_option linter.unusedVariables false
namespace Go.AK
open Go

theorem blkS_congr {s s' : Sto} (h : ∀ k, s'.get k = s.get k) (k : Key) (p : List Nat) : s'.blkS k p = s.blkS k p := by simp only [Sto.blkS, Sto.blk, h]
theorem Tr_congr {X : EM} {s s' : Sto} (h : ∀ k, s'.get k = s.get k) (k : Key) (p : List Nat) : Tr X s k p X s' k p := Tr.eq (blkS_congr h k p)
theorem HRel.congr {X : EM} {s s' : Sto} {w : World} (H : HRel X s w) (h : ∀ k, s'.get k = s.get k) : HRel X s' w := by
  have ho : ∀ k, s'.owned k ↔ s.owned k := fun k => by simp only [Sto.owned, h]
  refine H.build (fun k q => (k, q)) (fun k q e cs hb => ?_) (fun k q k' q' _ _ h => by simpa using h) (fun a h => ⟨h, rfl⟩) (fun k p e cs hb i x hx => ?_) (fun k r hg => ?_) (fun k p i e cs hb => ?_)
  · rw [blkS_congr h] at hb; exact ⟨cs, hb, Nat.le_refl _, rfl, (ho k).1⟩
  · rw [blkS_congr h] at hb
    obtain ⟨v, h1, h2⟩ := H.cell k p e cs hb i x hx
    exact ⟨v, h1, HC_tr h2 (fun _ => Tr_congr h _ _) (VC_tr fun k p _ => Tr_congr h k p)⟩
  · rw [h] at hg; exact H.clean k r hg
  · rw [blkS_congr h] at hb; exact H.cleanD k p i e cs hb

/-- Addresses of a root K that was what the cell (k, p, i) owned. -/
def EM.cut (X : EM) (K k : Key) (p : List Nat) (i : Nat) : EM := fun k' q => if k' = K then X k (p ++ [i] ++ q) else X k' q

theorem HRel.detach {X : EM} {s : Sto} {w : World} (H : HRel X s w) {k K : Key} (hK : s.get K = none) {p : List Nat} (hn : NoN s k (p.length + 1)) (ho : s.owned k)
    {i : Nat} {e : Nat} {cs : List Cell} (hb : s.blk k p = some (e, cs)) {x : Cell} (hi : cs[i]? = some x) {e0 : Nat} {c0 : List Cell} (hx : sub (some x) = some (e0, c0)) {kd : Kind} (hkd : kd ≠ .fz) :
    HRel (X.cut K k p i) ((s.put k p i .dead).set K ⟨kd, e0, c0⟩) w ∧
    (∀ k' q, (k = k' → q.length < p.length + 1) → Tr X s k' q (X.cut K k p i) ((s.put k p i .dead).set K ⟨kd, e0, c0⟩) k' q) ∧
    (∀ q, Tr X s k (p ++ [i] ++ q) (X.cut K k p i) ((s.put k p i .dead).set K ⟨kd, e0, c0⟩) K q) := by
  have hil := getElem?_len hi
  have hbs := Sto.blkS_of_blk hb
  have hKk : K ≠ k := fun h => by subst h; simp only [Sto.blk, hK] at hb; cases hb
  have hput := Sto.blkS_put s k p i .dead hb hil
  have hset : ∀ k' q, ((s.put k p i .dead).set K ⟨kd, e0, c0⟩).blkS k' q = if K = k' then walkS (e0, c0) q else (s.put k p i .dead).blkS k' q := fun k' q => by
    simp only [Sto.blkS, Sto.blk, Sto.get_set]; by_cases h : K = k'
    · simp only [h, if_true, Option.bind_some, Root.blk]; rfl
    · simp only [h, if_false]
  have hnest : ∀ q, walkS (e0, c0) q = s.blkS k (p ++ [i] ++ q) := fun q => by
    rw [List.append_assoc, blkS_under hb]
    show _ = (walk (e, cs) (i :: q)).map _
    simp only [walk, hi, hx, Option.bind_some]; rfl
  have cN : ∀ k' q, K ≠ k' → (X.cut K k p i) k' q = X k' q := fun k' q h => by unfold EM.cut; rw [if_neg (fun e => h e.symm)]
  have cS : ∀ q, (X.cut K k p i) K q = X k (p ++ [i] ++ q) := fun q => by unfold EM.cut; rw [if_pos rfl]
  have orig : ∀ k' q e' cs', ((s.put k p i .dead).set K ⟨kd, e0, c0⟩).blkS k' q = some (e', cs') →
      (k' = K ∧ s.blkS k (p ++ [i] ++ q) = some (e', cs')) ∨
      (K ≠ k' ∧ k = k' ∧ q = p ∧ e' = e ∧ cs' = (cs.map sh).set i .dead) ∨
      (K ≠ k' ∧ s.blkS k' q = some (e', cs') ∧ ¬ (k = k' ∧ q = p) ∧ ∀ t, ¬ (k = k' ∧ strip p q = some (i :: t))) := by
    intro k' q e' cs' h
    rw [hset] at h
    by_cases hh : K = k'
    · rw [if_pos hh, hnest] at h; exact .inl ⟨hh.symm, h⟩
    · rw [if_neg hh, hput] at h
      by_cases hk : k = k'
      · subst hk
        simp only [if_true] at h
        cases hs : strip p q with
        | none =>
          rw [hs] at h
          refine .inr (.inr ⟨hh, h, fun h2 => ?_, fun t h2 => by simp at h2⟩)
          have := strip_append p []
          simp only [List.append_nil] at this
          rw [h2.2, this] at hs; cases hs
        | some u =>
          rw [hs] at h
          cases u with
          | nil =>
            simp only [Option.some.injEq, Prod.mk.injEq] at h
            exact .inr (.inl ⟨hh, rfl, by simpa using strip_some hs, h.1.symm, h.2.symm⟩)
          | cons j t =>
            by_cases hj : i = j
            · subst hj; simp at h
            · simp only [hj, if_false] at h
              refine .inr (.inr ⟨hh, h, fun h2 => ?_, fun t' h2 => ?_⟩)
              · have := strip_append p []
                simp only [List.append_nil] at this
                rw [h2.2, this] at hs; cases hs
              · simp at h2; exact hj h2.1.symm
      · simp only [hk, if_false] at h
        exact .inr (.inr ⟨hh, h, fun h2 => hk h2.1, fun t h2 => hk h2.1⟩)
  have tr : ∀ k' q, (k = k' → ∀ t, strip p q ≠ some (i :: t)) → Tr X s k' q (X.cut K k p i) ((s.put k p i .dead).set K ⟨kd, e0, c0⟩) k' q := by
    intro k' q h e' cs' hq
    have hh : K ≠ k' := fun hh => by subst hh; simp only [Sto.blkS, Sto.blk, hK] at hq; cases hq
    obtain ⟨cs'', h1, h2, _⟩ := Tr_put (X := X) hb hil (x := .dead) k' q (fun t => .inl fun h3 => h h3.1 t h3.2) e' cs' hq
    exact ⟨cs'', by rw [hset, if_neg hh]; exact h1, h2, cN _ _ hh⟩
  have trK : ∀ q, Tr X s k (p ++ [i] ++ q) (X.cut K k p i) ((s.put k p i .dead).set K ⟨kd, e0, c0⟩) K q := fun q e' cs' hq =>
    ⟨cs', by rw [hset, if_pos rfl, hnest]; exact hq, rfl, cS q⟩
  have len : ∀ q, q.length < p.length + 1 → ∀ t, strip p q ≠ some (i :: t) := fun q h t hh => by
    have := congrArg List.length (strip_some hh); simp at this; omega
  have leaf : ∀ k' q e' cs', s.blkS k' q = some (e', cs') → ∀ y ∈ cs', ∀ v, VC X s y v → VC (X.cut K k p i) ((s.put k p i .dead).set K ⟨kd, e0, c0⟩) y v := fun k' q e' cs' h y hy v hv =>
    VC_tr (fun k'' q' hq => tr k'' q' fun hh => by subst hh; exact len q' (hn k' q e' cs' h y hy q' hq)) hv
  have ownd : ∀ k', K ≠ k' → ((s.put k p i .dead).set K ⟨kd, e0, c0⟩).owned k' → s.owned k' := fun k' hh ⟨r', h1, h2⟩ => by
    rw [Sto.get_set, if_neg hh] at h1
    exact (Sto.owned_put s k p i .dead k').1 ⟨r', h1, h2⟩
  refine ⟨H.build (fun k' q => if k' = K then (k, p ++ [i] ++ q) else (k', q)) (fun k' q e' cs' h => ?_) (fun k1 q1 k2 q2 h1 h2 h => ?_) (fun a h => ⟨h, rfl⟩) (fun k' q e' cs' h j y hy => ?_) ?_ ?_, fun k' q h => tr k' q fun hk => len q (h hk), trK⟩
  · rcases orig k' q e' cs' h with ⟨rfl, h1⟩ | ⟨hh, rfl, rfl, rfl, rfl⟩ | ⟨hh, h1, h2, h3⟩
    · simp only [if_true]; exact ⟨cs', h1, Nat.le_refl _, cS q, fun _ => ho⟩
    · have hh' := Ne.symm hh; simp only [if_neg hh']; exact ⟨_, hbs, by simp, cN _ _ hh, ownd _ hh⟩
    · have hh' := Ne.symm hh; simp only [if_neg hh']; exact ⟨_, h1, Nat.le_refl _, cN _ _ hh, ownd _ hh⟩
  · have key : ∀ k' q, (((s.put k p i .dead).set K ⟨kd, e0, c0⟩).blkS k' q).isSome → k' ≠ K → ∀ q', (k', q) ≠ (k, p ++ [i] ++ q') := by
      intro k' q hh hne q' he
      obtain ⟨b, hh⟩ := Option.isSome_iff_exists.1 hh
      simp only [Prod.mk.injEq] at he
      obtain ⟨rfl, rfl⟩ := he
      rcases orig _ _ b.1 b.2 hh with ⟨h3, _⟩ | ⟨_, _, h3, _⟩ | ⟨_, _, _, h3⟩
      · exact hne h3
      · have := congrArg List.length h3; simp at this
      · exact h3 q' ⟨rfl, by rw [List.append_assoc]; exact strip_append p _⟩
    by_cases a : k1 = K <;> by_cases b : k2 = K
    · simp only [a, b, if_true, Prod.mk.injEq, List.append_cancel_left_eq] at h; exact ⟨a.trans b.symm, h.2⟩
    · simp only [a, b, if_true, if_false] at h; exact absurd h.symm (key k2 q2 h2 b q1)
    · simp only [a, b, if_true, if_false] at h; exact absurd h (key k1 q1 h1 a q2)
    · simp only [a, b, if_false] at h; simpa using h
  · rcases orig k' q e' cs' h with ⟨rfl, h1⟩ | ⟨hh, rfl, rfl, rfl, rfl⟩ | ⟨hh, h1, h2, h3⟩
    · rw [cS]
      obtain ⟨v, hv1, hv2⟩ := H.cell _ _ _ _ h1 j y hy
      refine ⟨v, hv1, HC_tr hv2 (fun _ => ?_) (leaf _ _ _ _ h1 y (List.mem_iff_getElem?.2 ⟨j, hy⟩) v)⟩
      have := trK (q ++ [j]); rw [← List.append_assoc] at this; exact this
    · rw [cN _ _ hh]
      by_cases hj : i = j
      · subst hj
        rw [List.getElem?_set_self (by simpa using hil)] at hy
        simp only [Option.some.injEq] at hy
        subst hy
        obtain ⟨v, hv1, _⟩ := H.cell k q _ _ hbs i (sh x) (by rw [List.getElem?_map, hi]; rfl)
        exact ⟨v, hv1, trivial⟩
      · rw [List.getElem?_set_ne hj] at hy
        obtain ⟨v, hv1, hv2⟩ := H.cell k q _ _ hbs j y hy
        refine ⟨v, hv1, HC_tr hv2 (fun _ => tr _ _ fun _ t h3 => ?_) (leaf _ _ _ _ hbs y (List.mem_iff_getElem?.2 ⟨j, hy⟩) v)⟩
        rw [strip_append] at h3; simp at h3; exact hj h3.1.symm
    · rw [cN _ _ hh]
      obtain ⟨v, hv1, hv2⟩ := H.cell k' q _ _ h1 j y hy
      refine ⟨v, hv1, HC_tr hv2 (fun _ => tr _ _ fun hk t h4 => ?_) (leaf _ _ _ _ h1 y (List.mem_iff_getElem?.2 ⟨j, hy⟩) v)⟩
      have hq := strip_some h4
      rcases List.eq_nil_or_concat t with rfl | ⟨t', a, rfl⟩
      · have : q = p ∧ j = i := by
          have := List.append_inj' hq rfl
          simpa using this
        exact h2 ⟨hk, this.1⟩
      · have : q = p ++ i :: t' := by
          have h5 : q ++ [j] = (p ++ i :: t') ++ [a] := by rw [hq]; simp
          exact (List.append_inj' h5 rfl).1
        exact h3 t' ⟨hk, by rw [this, strip_append]⟩
  · -- the new root is clean
    have hc0 : ∀ y ∈ c0, cln y = true := fun y hy => by
      have h1 : s.blkS k (p ++ [i]) = some (e0, c0.map sh) := by have := hnest []; simp only [List.append_nil] at this; rw [← this]; rfl
      have h2 := List.mem_map_of_mem (f := sh) hy
      cases hp : p with
      | nil => subst hp; rw [← cln_sh]; exact H.cleanD k [] i _ _ h1 _ h2
      | cons a p' => subst hp; rw [← cln_sh]; exact H.cleanD k (p' ++ [i]) a _ _ h1 _ h2
    intro k' r hg hk y hy
    rw [Sto.get_set] at hg
    by_cases hh : K = k'
    · rw [if_pos hh] at hg; cases hg; exact hc0 y hy
    · rw [if_neg hh] at hg; exact H.clean_put (x := .dead) (.inl rfl) hb k' r hg hk y hy
  · intro k' q j e' cs' h y hy
    rcases orig k' (j :: q) e' cs' h with ⟨rfl, h1⟩ | ⟨hh, rfl, hq, rfl, rfl⟩ | ⟨hh, h1, h2, h3⟩
    · cases hp : p with
      | nil => subst hp; exact H.cleanD k (j :: q) i _ _ h1 y hy
      | cons a p' => subst hp; exact H.cleanD k (p' ++ [i] ++ j :: q) a _ _ (by simpa using h1) y hy
    · rcases List.mem_or_eq_of_mem_set hy with h | h
      · rw [← hq] at hbs; exact H.cleanD _ _ _ _ _ hbs y h
      · subst h; rfl
    · exact H.cleanD k' q j _ _ h1 y hy
end Go.AK


/- A new root; a list root that grows, where it lies or elsewhere. Conditions: none. -/
set_option linter.unusedSimpArgs false
set_option linter.unusedVariables false
namespace Go.AK
open Go

theorem cell_block {w : World} {a : Addr} (h : (w.cell? a).isSome) : a.block < w.heap.size := by
  unfold World.cell? at h
  cases hb : w.heap[a.block]? with
  | none => rw [hb] at h; simp at h
  | some o => exact (Array.getElem?_eq_some_iff.1 hb).1

def EM.lay (X : EM) (K : Key) (x : Ext) : EM := fun k q => if k = K ∧ q = [] then x else X k q

theorem blkS_new {s : Sto} {K : Key} (r : Root) (k : Key) (q : List Nat) : (s.set K r).blkS k q = if K = k then walkS (r.e, r.cs) q else s.blkS k q := by
  simp only [Sto.blkS, Sto.blk, Sto.get_set]; by_cases h : K = k
  · simp only [h, if_true, Option.bind_some, Root.blk]; rfl
  · simp only [h, if_false]

/-- No cell owns. -/
def leaves (cs : List Cell) : Prop := ∀ x ∈ cs, sub (some x) = none
theorem walkS_leaves {e : Nat} {cs : List Cell} (h : leaves cs) (q : List Nat) : walkS (e, cs) q = if q = [] then some (e, cs.map sh) else none := by
  cases q with
  | nil => rfl
  | cons i q =>
    have : sub cs[i]? = none := by
      cases hx : cs[i]? with
      | none => rfl
      | some x => exact h x (List.mem_iff_getElem?.2 ⟨i, hx⟩)
    show (walk (e, cs) (i :: q)).map _ = _
    simp only [walk, this]; rfl
theorem leaves_dead (n : Nat) : leaves (List.replicate n .dead) := fun x hx => by rw [(List.mem_replicate.1 hx).2]; rfl

theorem HRel.new {X : EM} {s : Sto} {w w' : World} (H : HRel X s w) {K : Key} (hK : s.get K = none) {r : Root} {x : Ext} (hl : leaves r.cs) (hfz : r.kd ≠ .fz)
    (hcl : r.kd ≠ .box → ∀ y ∈ r.cs, cln y = true) (hold : ∀ a, a.block < w.heap.size → w'.cell? a = w.cell? a ∧ w'.frozen? a = w.frozen? a) (hb : w.heap.size ≤ x.b)
    (hcap : r.cs.length ≤ x.cap) (hc : ∀ j, j < x.cap → (w'.cell? (x.at j)).isSome ∧ w'.frozen? (x.at j) = false)
    (hcell : ∀ i y, r.cs[i]? = some y → ∃ v, w'.cell? (x.at i) = some v ∧ VC (X.lay K x) (s.set K r) y v) :
    HRel (X.lay K x) (s.set K r) w' ∧ ∀ k q, Tr X s k q (X.lay K x) (s.set K r) k q := by
  have hbl := blkS_new (s := s) (K := K) r
  have lN : ∀ k q, K ≠ k → (X.lay K x) k q = X k q := fun k q h => by unfold EM.lay; rw [if_neg (fun e => h e.1.symm)]
  have lS : (X.lay K x) K [] = x := by unfold EM.lay; simp
  have orig : ∀ k q e cs, (s.set K r).blkS k q = some (e, cs) → (k = K ∧ q = [] ∧ e = r.e ∧ cs = r.cs.map sh) ∨ (K ≠ k ∧ s.blkS k q = some (e, cs)) := by
    intro k q e cs h
    rw [hbl] at h
    by_cases hh : K = k
    · rw [if_pos hh, walkS_leaves hl] at h
      by_cases hq : q = []
      · rw [if_pos hq] at h; simp at h; exact .inl ⟨hh.symm, hq, h.1.symm, h.2.symm⟩
      · rw [if_neg hq] at h; cases h
    · rw [if_neg hh] at h; exact .inr ⟨hh, h⟩
  have tr : ∀ k q, Tr X s k q (X.lay K x) (s.set K r) k q := fun k q e cs h => by
    have hh : K ≠ k := fun hh => by subst hh; simp only [Sto.blkS, Sto.blk, hK] at h; cases h
    exact ⟨cs, by rw [hbl, if_neg hh]; exact h, rfl, lN k q hh⟩
  have ownd : ∀ k, K ≠ k → ((s.set K r).owned k ↔ s.owned k) := fun k h => by simp only [Sto.owned, Sto.get_set, if_neg h]
  have old : ∀ k q e cs, s.blkS k q = some (e, cs) → ∀ j, j < (X k q).cap → ((X k q).at j).block < w.heap.size := fun k q e cs h j hj => cell_block ((H.room k q e cs h).2 j hj).1
  refine ⟨⟨fun k q e cs h i y hy => ?_, fun k q e cs h => ?_, fun k p k' p' h h' ho hne j j' hj hj' => ?_, fun k r' hg hk y hy => ?_, fun k q j e cs h y hy => ?_⟩, tr⟩
  · rcases orig k q e cs h with ⟨rfl, rfl, rfl, rfl⟩ | ⟨hh, h1⟩
    · rw [lS]
      rw [List.getElem?_map] at hy
      obtain ⟨y0, hy0, rfl⟩ := Option.map_eq_some_iff.1 hy
      obtain ⟨v, hv1, hv2⟩ := hcell i y0 hy0
      have hy1 := hl y0 (List.mem_iff_getElem?.2 ⟨i, hy0⟩)
      refine ⟨v, hv1, HC_leaf ?_ ?_⟩ <;> cases y0 <;> first | rfl | exact hv2 | (simp at hy1)
    · rw [lN k q hh]
      obtain ⟨v, hv1, hv2⟩ := H.cell k q e cs h1 i y hy
      have hlt := old k q e cs h1 i (Nat.lt_of_lt_of_le (getElem?_len hy) (H.room k q e cs h1).1)
      exact ⟨v, by rw [(hold _ hlt).1]; exact hv1, HC_tr hv2 (fun _ => tr _ _) (VC_tr fun k q _ => tr k q)⟩
  · rcases orig k q e cs h with ⟨rfl, rfl, rfl, rfl⟩ | ⟨hh, h1⟩
    · rw [lS]; exact ⟨by simpa using hcap, fun j hj => ⟨(hc j hj).1, fun _ => (hc j hj).2⟩⟩
    · rw [lN k q hh]
      refine ⟨(H.room k q e cs h1).1, fun j hj => ?_⟩
      have hlt := old k q e cs h1 j hj
      rw [(hold _ hlt).1, (hold _ hlt).2]
      exact ⟨((H.room k q e cs h1).2 j hj).1, fun ho => ((H.room k q e cs h1).2 j hj).2 ((ownd k hh).1 ho)⟩
  · obtain ⟨b1, h⟩ := Option.isSome_iff_exists.1 h
    obtain ⟨b2, h'⟩ := Option.isSome_iff_exists.1 h'
    rcases orig k p _ _ h with ⟨rfl, rfl, _, _⟩ | ⟨hh, h1⟩ <;> rcases orig k' p' _ _ h' with ⟨rfl, rfl, _, _⟩ | ⟨hh', h1'⟩
    · exact absurd ⟨rfl, rfl⟩ hne
    · rw [lN _ _ hh'] at hj' ⊢
      rw [lS]
      intro he
      have := old _ _ _ _ h1' j' hj'
      rw [← he] at this
      simp [Ext.at] at this; omega
    · rw [lN _ _ hh] at hj ⊢
      rw [lS]
      intro he
      have := old _ _ _ _ h1 j hj
      rw [he] at this
      simp [Ext.at] at this; omega
    · rw [lN _ _ hh] at hj ⊢
      rw [lN _ _ hh'] at hj' ⊢
      exact H.apart k p k' p' (by rw [h1]; rfl) (by rw [h1']; rfl) ((ownd k hh).1 ho) hne j j' hj hj'
  · rw [Sto.get_set] at hg
    by_cases hh : K = k
    · rw [if_pos hh] at hg; cases hg; exact hcl hk y hy
    · rw [if_neg hh] at hg; exact H.clean k r' hg hk y hy
  · rcases orig k (j :: q) e cs h with ⟨_, h1, _, _⟩ | ⟨hh, h1⟩
    · cases h1
    · exact H.cleanD k q j e cs h1 y hy

/-- A list root with m cells more, of which nothing is told, perhaps at another place. -/
theorem HRel.grow {X : EM} {s : Sto} {w w' : World} (H : HRel X s w) {K : Key} {e : Nat} {cs : List Cell} (hK : s.get K = some ⟨.lst, e, cs⟩) (hn : NoN s K 0) {x : Ext} {m : Nat}
    (hcap : cs.length + m ≤ x.cap) (hc : ∀ j, j < x.cap → (w'.cell? (x.at j)).isSome ∧ w'.frozen? (x.at j) = false)
    (hold : ∀ k q e' cs', s.blkS k q = some (e', cs') → ¬ (k = K ∧ q = []) → ∀ j, j < (X k q).cap → w'.cell? ((X k q).at j) = w.cell? ((X k q).at j) ∧ w'.frozen? ((X k q).at j) = w.frozen? ((X k q).at j) ∧ ∀ i, i < x.cap → (X k q).at j ≠ x.at i)
    (hcell : ∀ i, i < cs.length → w'.cell? (x.at i) = w.cell? ((X K []).at i)) :
    HRel (X.lay K x) (s.set K ⟨.lst, e, cs ++ List.replicate m .dead⟩) w' ∧ ∀ k q, K ≠ k → Tr X s k q (X.lay K x) (s.set K ⟨.lst, e, cs ++ List.replicate m .dead⟩) k q := by
  have hbl := blkS_new (s := s) (K := K) ⟨.lst, e, cs ++ List.replicate m .dead⟩
  have hbK : s.blk K [] = some (e, cs) := by simp only [Sto.blk, hK, Option.bind_some, Root.blk, walk]
  have hbKS := Sto.blkS_of_blk hbK
  have lN : ∀ k q, ¬ (k = K ∧ q = []) → (X.lay K x) k q = X k q := fun k q h => by unfold EM.lay; rw [if_neg h]
  have lS : (X.lay K x) K [] = x := by unfold EM.lay; simp
  have wk : ∀ i q, walkS (e, cs ++ List.replicate m .dead) (i :: q) = s.blkS K (i :: q) := fun i q => by
    have h1 := blkS_under hbK (i :: q)
    simp only [List.nil_append] at h1
    rw [h1]
    show (walk _ _).map _ = (walk _ _).map _
    simp only [walk]
    rcases Nat.lt_or_ge i cs.length with h | h
    · rw [List.getElem?_append_left h]
    · rw [List.getElem?_append_right h, List.getElem?_eq_none h]
      have : sub (List.replicate m Cell.dead)[i - cs.length]? = none := by
        cases hx : (List.replicate m Cell.dead)[i - cs.length]? with
        | none => rfl
        | some y => exact leaves_dead m y (List.mem_iff_getElem?.2 ⟨_, hx⟩)
      rw [this]; rfl
  have orig : ∀ k q e' cs', (s.set K ⟨.lst, e, cs ++ List.replicate m .dead⟩).blkS k q = some (e', cs') →
      (k = K ∧ q = [] ∧ e' = e ∧ cs' = cs.map sh ++ List.replicate m .dead) ∨ (¬ (k = K ∧ q = []) ∧ s.blkS k q = some (e', cs')) := by
    intro k q e' cs' h
    rw [hbl] at h
    by_cases hh : K = k
    · subst hh
      rw [if_pos rfl] at h
      cases q with
      | nil => simp [walkS, shB] at h; exact .inl ⟨rfl, rfl, h.1.symm, h.2.symm⟩
      | cons i q => rw [wk] at h; exact .inr ⟨by simp, h⟩
    · rw [if_neg hh] at h; exact .inr ⟨fun h2 => hh h2.1.symm, h⟩
  have tr : ∀ k q, ¬ (k = K ∧ q = []) → Tr X s k q (X.lay K x) (s.set K ⟨.lst, e, cs ++ List.replicate m .dead⟩) k q := fun k q hh e' cs' h => by
    refine ⟨cs', ?_, rfl, lN k q hh⟩
    rw [hbl]
    by_cases h2 : K = k
    · subst h2
      rw [if_pos rfl]
      cases q with
      | nil => exact absurd ⟨rfl, rfl⟩ hh
      | cons i q => rw [wk]; exact h
    · rw [if_neg h2]; exact h
  have ownd : ∀ k, ((s.set K ⟨.lst, e, cs ++ List.replicate m .dead⟩).owned k ↔ s.owned k) := fun k => by
    simp only [Sto.owned, Sto.get_set]
    by_cases h : K = k
    · subst h; simp [hK]
    · simp [h]
  have leaf : ∀ k q e' cs', s.blkS k q = some (e', cs') → ∀ y ∈ cs', ∀ v, VC X s y v → VC (X.lay K x) (s.set K ⟨.lst, e, cs ++ List.replicate m .dead⟩) y v := fun k q e' cs' h y hy v hv =>
    VC_tr (fun k' q' hq => tr k' q' fun hh => absurd (hn k q e' cs' h y hy q' (hh.1 ▸ hq)) (by omega)) hv
  refine ⟨⟨fun k q e' cs' h i y hy => ?_, fun k q e' cs' h => ?_, fun k p k' p' h h' ho hne j j' hj hj' => ?_, fun k r' hg hk y hy => ?_, fun k q j e' cs' h y hy => ?_⟩, fun k q h => tr k q fun hh => h hh.1.symm⟩
  · rcases orig k q e' cs' h with ⟨rfl, rfl, rfl, rfl⟩ | ⟨hh, h1⟩
    · rw [lS]
      rcases Nat.lt_or_ge i cs.length with hi | hi
      · rw [List.getElem?_append_left (by simpa using hi)] at hy
        obtain ⟨v, hv1, hv2⟩ := H.cell _ _ _ _ hbKS i y hy
        refine ⟨v, by rw [hcell i hi]; exact hv1, HC_tr hv2 (fun _ => tr _ _ (by simp)) (leaf _ _ _ _ hbKS y (List.mem_iff_getElem?.2 ⟨i, hy⟩) v)⟩
      · rw [List.getElem?_append_right (by simpa using hi)] at hy
        have := (List.mem_replicate.1 (List.mem_iff_getElem?.2 ⟨_, hy⟩)).2
        subst this
        have hlt := getElem?_len hy
        simp at hlt
        obtain ⟨v, hv⟩ := Option.isSome_iff_exists.1 (hc i (by omega)).1
        exact ⟨v, hv, trivial⟩
    · rw [lN k q hh]
      obtain ⟨v, hv1, hv2⟩ := H.cell k q _ _ h1 i y hy
      have hlt := Nat.lt_of_lt_of_le (getElem?_len hy) (H.room k q _ _ h1).1
      refine ⟨v, by rw [(hold k q _ _ h1 hh i hlt).1]; exact hv1, HC_tr hv2 (fun _ => tr _ _ (fun h2 => by have := h2.2; simp at this)) (leaf _ _ _ _ h1 y (List.mem_iff_getElem?.2 ⟨i, hy⟩) v)⟩
  · rcases orig k q e' cs' h with ⟨rfl, rfl, rfl, rfl⟩ | ⟨hh, h1⟩
    · rw [lS]; exact ⟨by simpa using hcap, fun j hj => ⟨(hc j hj).1, fun _ => (hc j hj).2⟩⟩
    · rw [lN k q hh]
      refine ⟨(H.room k q _ _ h1).1, fun j hj => ?_⟩
      obtain ⟨h2, h3, _⟩ := hold k q _ _ h1 hh j hj
      rw [h2, h3]
      exact ⟨((H.room k q _ _ h1).2 j hj).1, fun ho => ((H.room k q _ _ h1).2 j hj).2 ((ownd k).1 ho)⟩
  · obtain ⟨b1, h⟩ := Option.isSome_iff_exists.1 h
    obtain ⟨b2, h'⟩ := Option.isSome_iff_exists.1 h'
    rcases orig k p _ _ h with ⟨rfl, rfl, _, _⟩ | ⟨hh, h1⟩ <;> rcases orig k' p' _ _ h' with ⟨rfl, rfl, _, _⟩ | ⟨hh', h1'⟩
    · exact absurd ⟨rfl, rfl⟩ hne
    · rw [lN _ _ hh'] at hj' ⊢
      rw [lS] at hj ⊢
      exact fun he => (hold k' p' _ _ h1' hh' j' hj').2.2 j hj he.symm
    · rw [lN _ _ hh] at hj ⊢
      rw [lS] at hj' ⊢
      exact (hold k p _ _ h1 hh j hj).2.2 j' hj'
    · rw [lN _ _ hh] at hj ⊢
      rw [lN _ _ hh'] at hj' ⊢
      exact H.apart k p k' p' (by rw [h1]; rfl) (by rw [h1']; rfl) ((ownd k).1 ho) hne j j' hj hj'
  · rw [Sto.get_set] at hg
    by_cases hh : K = k
    · rw [if_pos hh] at hg; cases hg
      rcases List.mem_append.1 hy with h | h
      · exact H.clean K _ hK (by simp) y h
      · rw [(List.mem_replicate.1 h).2]; rfl
    · rw [if_neg hh] at hg; exact H.clean k r' hg hk y hy
  · rcases orig k (j :: q) e' cs' h with ⟨_, h1, _, _⟩ | ⟨hh, h1⟩
    · cases h1
    · exact H.cleanD k q j _ _ h1 y hy
end Go.AK


/- A state of the walk: temporaries and roots; what has become of the world since the call began. Conditions: none. -/
set_option linter.unusedSimpArgs false
set_option linter.unusedVariables false
namespace Go.AK
open Go

inductive AV where
  | c (x : Cell)
  | g (xs : List Cell)
  | tup (vs : List (Bool × List Cell))

abbrev Tm := List (Nat × AV)
@[simp] def Tm.get : Tm → Nat → AV
  | [], _ => .c .dead
  | (j, v) :: r, i => if j = i then v else Tm.get r i
@[simp] def Tm.set : Tm → Nat → AV → Tm
  | [], i, v => [(i, v)]
  | (j, u) :: r, i, v => if j = i then (i, v) :: r else (j, u) :: Tm.set r i v
theorem Tm.get_set (t : Tm) (i j : Nat) (v : AV) : (t.set i v).get j = if i = j then v else t.get j := by
  induction t with
  | nil => simp
  | cons p t ih =>
    obtain ⟨q, u⟩ := p
    by_cases h : q = i
    · subst h; by_cases h2 : q = j <;> simp [h2]
    · by_cases h2 : q = j
      · subst h2; have : ¬ i = q := fun e => h e.symm
        simp [h, this]
      · simp [h, h2, ih]

def VT (X : EM) (s : Sto) : Bool × List Cell → Value → Prop
  | (true, xs), u => ∃ vs : List Value, u = .agg vs.toArray ∧ all2 (VC X s) xs vs
  | (false, xs), u => ∃ x, xs = [x] ∧ VC X s x u
def VA (X : EM) (s : Sto) : AV → Value → Prop
  | .c x, v => VC X s x v
  | .g xs, v => ∃ vs : List Value, v = .agg vs.toArray ∧ all2 (VC X s) xs vs
  | .tup l, v => ∃ us : List Value, v = .tuple us.toArray ∧ all2 (VT X s) l us

def killA (k : Key) (d : Nat) : AV → AV
  | .c x => .c (killC k d x)
  | .g xs => .g (xs.map (killC k d))
  | .tup l => .tup (l.map fun p => (p.1, p.2.map (killC k d)))
def Tm.kill (t : Tm) (k : Key) (d : Nat) : Tm := t.map fun p => (p.1, killA k d p.2)
theorem Tm.get_kill (t : Tm) (k : Key) (d : Nat) (i : Nat) : (t.kill k d).get i = killA k d (t.get i) := by
  induction t with
  | nil => rfl
  | cons p t ih =>
    obtain ⟨q, u⟩ := p
    show (if q = i then killA k d u else Tm.get (Tm.kill t k d) i) = _
    rw [ih]
    by_cases h : q = i <;> simp [h]

theorem VA_tr {X X' : EM} {s s' : Sto} {x : AV} {v : Value} (h : ∀ k p, Tr X s k p X' s' k p) (hv : VA X s x v) : VA X' s' x v := by
  cases x with
  | c x => exact VC_tr (fun k p _ => h k p) hv
  | g xs => obtain ⟨vs, rfl, hf⟩ := hv; exact ⟨vs, rfl, all2.imp' (fun _ _ _ h1 => VC_tr (fun k p _ => h k p) h1) hf⟩
  | tup l =>
    obtain ⟨us, rfl, hf⟩ := hv
    refine ⟨us, rfl, all2.imp' (fun a b _ h1 => ?_) hf⟩
    obtain ⟨b1, xs⟩ := a
    cases b1 with
    | true => obtain ⟨vs, rfl, hg⟩ := h1; exact ⟨vs, rfl, all2.imp' (fun _ _ _ h1 => VC_tr (fun k p _ => h k p) h1) hg⟩
    | false => obtain ⟨x, rfl, hx⟩ := h1; exact ⟨x, rfl, VC_tr (fun k p _ => h k p) hx⟩

/-! ### what has become of the world -/
/-- The cell a is one of those that the store owns. -/
def ownC (X : EM) (s : Sto) (a : Addr) : Prop := ∃ k q j, s.owned k ∧ (s.blkS k q).isSome ∧ j < (X k q).cap ∧ (X k q).at j = a

structure Fr (X : EM) (s : Sto) (w w' : World) : Prop where
  os : w'.os = w.os
  tape : w'.tape = w.tape
  output : w'.output = w.output
  size : w.heap.size ≤ w'.heap.size
  cell : ∀ a, a.block < w.heap.size → ¬ ownC X s a → w'.cell? a = w.cell? a
  frozen : ∀ a, a.block < w.heap.size → w'.frozen? a = w.frozen? a
  block : ∀ b, b < w.heap.size → (∀ o, ¬ ownC X s ⟨b, o, none⟩) → w'.heap[b]? = w.heap[b]?

def Foot (X : EM) (s : Sto) (w : World) (X' : EM) (s' : Sto) : Prop := ∀ a, ownC X' s' a → ownC X s a ∨ w.heap.size ≤ a.block

theorem Fr.refl (X : EM) (s : Sto) (w : World) : Fr X s w w := ⟨rfl, rfl, rfl, Nat.le_refl _, fun _ _ _ => rfl, fun _ _ => rfl, fun _ _ _ => rfl⟩
theorem Foot.refl (X : EM) (s : Sto) (w : World) : Foot X s w X s := fun _ h => .inl h

theorem Fr.trans {X X' : EM} {s s' : Sto} {w w' w'' : World} (h : Fr X s w w') (hf : Foot X s w X' s') (h' : Fr X' s' w' w'') : Fr X s w w'' where
  os := h'.os.trans h.os
  tape := h'.tape.trans h.tape
  output := h'.output.trans h.output
  size := Nat.le_trans h.size h'.size
  cell := fun a ha hn => (h'.cell a (Nat.lt_of_lt_of_le ha h.size) fun ho => (hf a ho).elim hn fun hh => by omega).trans (h.cell a ha hn)
  frozen := fun a ha => (h'.frozen a (Nat.lt_of_lt_of_le ha h.size)).trans (h.frozen a ha)
  block := fun b hb hn => (h'.block b (Nat.lt_of_lt_of_le hb h.size) fun o ho => (hf _ ho).elim (hn o) fun hh => by simp at hh; omega).trans (h.block b hb hn)
theorem Foot.trans {X X' X'' : EM} {s s' s'' : Sto} {w w' : World} (h : Foot X s w X' s') (hs : w.heap.size ≤ w'.heap.size) (h' : Foot X' s' w' X'' s'') : Foot X s w X'' s'' := fun a ha =>
  (h' a ha).elim (h a) fun hh => .inr (Nat.le_trans hs hh)

/-- A store into an owned cell. -/
theorem Fr.setCell {X : EM} {s : Sto} (w : World) {a : Addr} (ha : ownC X s a) (v : Value) : Fr X s w (w.setCell a v) where
  os := rfl
  tape := rfl
  output := rfl
  size := by simp
  cell := fun b _ hn => by rw [World.cell?_setCell_other]; exact fun e => hn (e ▸ ha)
  frozen := fun b _ => by simp
  block := fun b _ hn => by
    obtain ⟨k, q, j, h1, h2, h3, rfl⟩ := ha
    have : b ≠ ((X k q).at j).block := fun e => hn ((X k q).o + j) ⟨k, q, j, h1, h2, h3, by simp [Ext.at] at e ⊢; exact e.symm⟩
    simp only [World.setCell, Array.getElem?_modify]
    rw [if_neg (fun e => this e.symm)]
theorem Fr.alloc (X : EM) (s : Sto) (w : World) (o : Obj) : Fr X s w (w.alloc o) where
  os := rfl
  tape := rfl
  output := rfl
  size := by simp
  cell := fun b hb _ => World.cell?_alloc_lt w o b hb
  frozen := fun b hb => World.frozen?_alloc_old w o b (Nat.ne_of_lt hb)
  block := fun b hb _ => by show (w.heap.push o)[b]? = _; rw [Array.getElem?_push, if_neg (by omega)]
theorem Fr.drew (X : EM) (s : Sto) (w : World) : Fr X s w w.drew := ⟨rfl, rfl, rfl, Nat.le_refl _, fun _ _ _ => rfl, fun _ _ => rfl, fun _ _ _ => rfl⟩

structure St where
  t : Tm
  s : Sto
  /-- arguments behind which something was turned that cells own -/
  ma : List Nat
  /-- arguments that were turned as a whole -/
  mb : List Nat

structure Base where
  X : EM
  s : Sto
  w : World

def Keep (X0 : EM) (s0 : Sto) (X : EM) (s : Sto) (ma mb : List Nat) : Prop := ∀ j, (j ∉ ma → j ∉ mb → ∀ q, Tr X0 s0 (.arg j) q X s (.arg j) q) ∧ (j ∉ mb → Tr X0 s0 (.arg j) [] X s (.arg j) [])

/-- A cell of a package-level variable that holds what it was laid with, where the statement tells of one. -/
def gcell : Option Value := none
def gadr : Addr := ⟨0, 0, none⟩
structure GX (X : EM) (s : Sto) (w : World) : Prop where
  cell : ∀ v, gcell = some v → w.cell? gadr = some v
  own : gcell.isSome = true → ¬ ownC X s gadr

structure InvX (B : Base) (N : Nat) (X : EM) (st : St) (a : Act) (w : World) : Prop where
  rel : HRel X st.s w
  tmps : ∀ i, VA X st.s (st.t.get i) (a.tmps.getD i undef)
  size : a.tmps.size = N
  defers : a.defers = []
  fr : Fr B.X B.s B.w w
  foot : Foot B.X B.s B.w X st.s
  keep : Keep B.X B.s X st.s st.ma st.mb
  gb : GX B.X B.s B.w

def Inv (B : Base) (N : Nat) (st : St) (a : Act) (w : World) : Prop := ∃ X, InvX B N X st a w

theorem InvX.gx {B : Base} {N : Nat} {X : EM} {st : St} {a : Act} {w : World} (I : InvX B N X st a w) : GX X st.s w := by
  have hlt : ∀ v, gcell = some v → gadr.block < B.w.heap.size := fun v h => cell_block (by rw [I.gb.cell v h]; rfl)
  refine ⟨fun v h => ?_, fun h ho => ?_⟩
  · rw [I.fr.cell gadr (hlt v h) (I.gb.own (by rw [h]; rfl))]; exact I.gb.cell v h
  · obtain ⟨v, hv⟩ := Option.isSome_iff_exists.1 h
    have := hlt v hv
    rcases I.foot gadr ho with h1 | h1
    · exact I.gb.own h h1
    · omega

theorem Keep.step {X0 X X' : EM} {s0 s s' : Sto} {ma mb ma' mb' : List Nat} (h : Keep X0 s0 X s ma mb) (ha : ∀ j, j ∈ ma → j ∈ ma') (hb : ∀ j, j ∈ mb → j ∈ mb')
    (h1 : ∀ j, j ∉ ma' → j ∉ mb' → ∀ q, Tr X s (.arg j) q X' s' (.arg j) q) (h2 : ∀ j, j ∉ mb' → Tr X s (.arg j) [] X' s' (.arg j) []) : Keep X0 s0 X' s' ma' mb' := fun j =>
  ⟨fun a b q => ((h j).1 (fun hh => a (ha j hh)) (fun hh => b (hb j hh)) q).trans (h1 j a b q), fun b => ((h j).2 fun hh => b (hb j hh)).trans (h2 j b)⟩

/-- The eval of an operand. -/
def cOf : Value → AV
  | .agg cs => .g (cs.toList.map .sc)
  | .tuple _ => .c .dead
  | v => .c (.sc v)
def ev (t : Tm) : Operand → AV
  | .tmp i => t.get i
  | .const v => cOf v
  | .global g => .c (.sc (.pointer (some ⟨g, 0, none⟩)))
  | .func f => .c (.sc (.func (.func f) #[] #[]))

end Go.AK


/- Operations of the walk: their form, and those that leave memory alone. Conditions: none. -/
set_option linter.unusedSimpArgs false
set_option linter.unusedVariables false
namespace Go.AK
open Go

inductive AO where
  | mv (d : Tmp) (x : Operand)
  | pick (d : Tmp) (c a b : Operand)
  | alloc (d : Tmp) (zs : List Value)
  | box (d : Tmp) (x : Operand)
  | build (d : Tmp) (zs : List Value) (parts : List (Nat × Nat × Operand))
  | bslice (d : Tmp) (e : Nat) (zs : List Value) (len : Nat) (parts : List (Nat × Operand))
  | load (d : Tmp) (agg : Bool) (sz : Nat) (x : Operand)
  | store (sz : Nat) (x v : Operand)
  | nilc (d : Tmp) (x : Operand)
  | faddr (d : Tmp) (off : Nat) (x : Operand)
  | iaddr (d : Tmp) (e : Nat) (x i : Operand)
  | len (d : Tmp) (x : Operand)
  | slen (d : Tmp) (x : Operand)
  | sslice (d : Tmp) (x : Operand) (lo hi : Option Operand)
  | app (d : Tmp) (e bytes : Nat) (cons : Bool) (x y : Operand)
  | mslice (d : Tmp) (e bytes : Nat) (zs : List Value) (n : Operand)
  | slice (d : Tmp) (e : Nat) (x : Operand) (lo hi : Option Operand)
  | extr (d : Tmp) (x : Operand) (i : Nat)
  | fld (d : Tmp) (agg : Bool) (off sz : Nat) (x : Operand)
  | bin (d : Tmp) (op : BinOp) (x y : Operand)
  | beq (d : Tmp) (neg : Bool) (x y : Operand)
  | un (d : Tmp) (op : UnOp) (x : Operand)
  | conv (d : Tmp) (k : IntKind) (x : Operand)
  | mm (d : Tmp) (mx : Bool) (xs : List Operand)
  | sidx (d : Tmp) (x i : Operand)
  | mki (d : Tmp) (t : TypeId) (x : Operand)
  | aeq (d : Tmp) (neg : Bool) (ks : List Nat) (x y : Operand)
  | clo (d : Tmp) (f : FuncId) (xs : List Operand)

/-- What an operation does to a state. -/
def SOp (P : Program) (N : Nat) (o : Oper) (st st' : St) : Prop := ∀ B a w, Inv B N st a w →
  (∃ u w', (execOp a.eval o).run P w = .ok (.value u) w' ∧ Inv B N st' (a.put o.dst u) w') ∨
  (∃ w', (execOp a.eval o).run P w = .ok .skip w' ∧ Inv B N st' (a.put o.dst undef) w')

theorem InvX.put {B : Base} {N : Nat} {X : EM} {st : St} {a : Act} {w : World} (I : InvX B N X st a w) {d : Nat} (hd : d < N) {av : AV} {v : Value} (hv : VA X st.s av v) :
    InvX B N X { st with t := st.t.set d av } (a.put (some d) v) w where
  rel := I.rel
  tmps := fun i => by
    rw [Tm.get_set]
    by_cases h : d = i
    · subst h
      rw [if_pos rfl]
      have : (a.put (some d) v).tmps.getD d undef = v := by simp [Act.put, Array.getD, I.size, hd]
      rw [this]; exact hv
    · rw [if_neg h]
      have : (a.put (some d) v).tmps.getD i undef = a.tmps.getD i undef := by simp [Act.put, Array.getElem?_setIfInBounds_ne h]
      rw [this]; exact I.tmps i
  size := by simp [Act.put, I.size]
  defers := I.defers
  fr := I.fr
  foot := I.foot
  keep := I.keep
  gb := I.gb
theorem VC_one {X : EM} {s : Sto} {x : Cell} {v : Value} (h : VC X s x v) (hd : x ≠ .dead) : v.oneCell' = true := by
  cases x with
  | sc u => rw [h.1]; exact h.2
  | ref k p off n => obtain ⟨e, cs, cap, a, _, _, _, rfl, _⟩ := h; rfl
  | ptr k p c => obtain ⟨e, cs, _, _, rfl⟩ := h; rfl
  | own e n cs => exact h.elim
  | obx cs => exact h.elim
  | fn f caps => obtain ⟨vs, rfl, _⟩ := h; rfl
  | ifc t c => obtain ⟨u, rfl, _⟩ := h; rfl
  | dead => exact absurd rfl hd
theorem cells_one {v : Value} (h : v.oneCell' = true) : v.cells = #[v] := by cases v <;> first | rfl | (simp [Value.oneCell'] at h)

def cOf' : Value → AV
  | .agg cs => if cs.toList.all Value.oneCell' then .g (cs.toList.map .sc) else .c .dead
  | .tuple _ => .c .dead
  | v => .c (.sc v)
def evo (t : Tm) : Operand → AV
  | .tmp i => t.get i
  | .const v => cOf' v
  | .global g => .c (.sc (.pointer (some ⟨g, 0, none⟩)))
  | .func f => .c (.sc (.func (.func f) #[] #[]))

theorem VA_cOf (X : EM) (s : Sto) (v : Value) : VA X s (cOf' v) v := by
  cases v with
  | agg cs =>
    show VA X s (if cs.toList.all Value.oneCell' then .g (cs.toList.map .sc) else .c .dead) _
    by_cases h : cs.toList.all Value.oneCell' = true
    · rw [if_pos h]
      refine ⟨cs.toList, by simp, ?_⟩
      have h' : ∀ u ∈ cs.toList, u.oneCell' = true := fun u hu => List.all_eq_true.1 h u hu
      clear h
      generalize cs.toList = l at h'
      induction l with
      | nil => trivial
      | cons u l ih => exact ⟨⟨rfl, h' u (by simp)⟩, ih fun u hu => h' u (by simp [hu])⟩
    · rw [if_neg h]; trivial
  | tuple vs => trivial
  | _ => exact ⟨rfl, rfl⟩

theorem InvX.ev {B : Base} {N : Nat} {X : EM} {st : St} {a : Act} {w : World} (I : InvX B N X st a w) (x : Operand) : VA X st.s (evo st.t x) (a.eval x) := by
  cases x with
  | tmp i => exact I.tmps i
  | const v => exact VA_cOf X st.s v
  | global g => exact ⟨rfl, rfl⟩
  | func f => exact ⟨rfl, rfl⟩

/-- A scalar operand's value. -/
theorem InvX.sc {B : Base} {N : Nat} {X : EM} {st : St} {a : Act} {w : World} (I : InvX B N X st a w) {x : Operand} {u : Value} (h : evo st.t x = .c (.sc u)) : a.eval x = u := by
  have := I.ev x; rw [h] at this; exact this.1
theorem Ext.at_add (x : Ext) (i j : Nat) : (x.at i).add j = x.at (i + j) := by
  unfold Addr.add Ext.at
  by_cases h : j = 0
  · subst h; simp
  · simp [h, Nat.add_assoc]

/-- Both of two scalars, by an operator. -/
def abin : BinOp → Value → Value → Option Value
  | .add, .int k a, .int k' b => if k = k' then some (.int k (k.wrap (a + b))) else none
  | .sub, .int k a, .int k' b => if k = k' then some (.int k (k.wrap (a - b))) else none
  | .mul, .int k a, .int k' b => if k = k' then some (.int k (k.wrap (a * b))) else none
  | .quo, .int k a, .int k' b => if k = k' then (if b = 0 then none else some (.int k (k.wrap (a.tdiv b)))) else none
  | .rem, .int k a, .int k' b => if k = k' then (if b = 0 then none else some (.int k (a.tmod b))) else none
  | .and, .int k a, .int k' b => if k = k' then some (.int k (bits .and k a b)) else none
  | .or, .int k a, .int k' b => if k = k' then some (.int k (bits .or k a b)) else none
  | .xor, .int k a, .int k' b => if k = k' then some (.int k (bits .xor k a b)) else none
  | .andNot, .int k a, .int k' b => if k = k' then some (.int k (bits .andNot k a b)) else none
  | .shl, .int k a, .int _ b => if b < 0 then none else some (.int k (k.wrap (a * 2 ^ (min b.toNat k.bits))))
  | .shr, .int k a, .int _ b => if b < 0 then none else some (.int k (a.fdiv (2 ^ (min b.toNat k.bits))))
  | .eql, .int k a, .int k' b => if k = k' then some (.bool (decide (a = b))) else none
  | .neq, .int k a, .int k' b => if k = k' then some (.bool (decide (a ≠ b))) else none
  | .lss, .int k a, .int k' b => if k = k' then some (.bool (decide (a < b))) else none
  | .leq, .int k a, .int k' b => if k = k' then some (.bool (decide (a ≤ b))) else none
  | .gtr, .int k a, .int k' b => if k = k' then some (.bool (decide (b < a))) else none
  | .geq, .int k a, .int k' b => if k = k' then some (.bool (decide (b ≤ a))) else none
  | .add, .string a, .string b => if a.size + b.size ≤ 9223372036854775807 then some (.string (a ++ b)) else none
  | .eql, .string a, .string b => some (.bool (a.toList == b.toList))
  | .neq, .string a, .string b => some (.bool (!(a.toList == b.toList)))
  | _, _, _ => none

theorem abin_run {P : Program} {op : BinOp} {x y v : Value} (h : abin op x y = some v) (t : TypeId) (xo yo : Operand) (w : World) :
    (do eqGuard op t xo yo x y; binOp op t x y : Sem Value).run P w = .ok v w := by
  cases x <;> cases y <;> cases op <;> simp only [abin, reduceCtorEq] at h
  all_goals first
    | (split at h <;> first | (cases h; done) | skip
       first
         | (split at h <;> first | (cases h; done) | skip)
         | skip
       simp only [Option.some.injEq] at h
       subst h
       simp_all [eqGuard, binOp, Op.intArith, Op.intDiv, Op.shift, Op.intCmp, Op.stringOp, intBits_and, intBits_or, intBits_xor, intBits_andNot, IntKind.max, IntKind.signed, IntKind.bits]
       try (first | omega | (rw [Bool.eq_iff_iff]; simp)))
    | (simp only [Option.some.injEq] at h
       subst h
       simp_all [eqGuard, binOp, Op.stringOp])
end Go.AK


/- Operations that leave memory alone: what they do to a state, and that they do it. Conditions: none. -/
set_option linter.unusedSimpArgs false
set_option linter.unusedVariables false
namespace Go.AK
open Go

def AV.cells : AV → Option (List Cell)
  | .c .dead => none
  | .c x => some [x]
  | .g xs => some xs
  | .tup _ => none

theorem VA_cells {X : EM} {s : Sto} {av : AV} {v : Value} {xs : List Cell} (h : VA X s av v) (hx : av.cells = some xs) : all2 (VC X s) xs v.cells.toList := by
  cases av with
  | c x =>
    have hd : x ≠ .dead := fun e => by subst e; cases hx
    have : xs = [x] := by cases x <;> cases hx <;> rfl
    subst this
    rw [cells_one (VC_one h hd)]
    exact ⟨h, trivial⟩
  | g ys => cases hx; obtain ⟨vs, rfl, hf⟩ := h; exact hf
  | tup l => cases hx

def look (k : Key) (p : List Nat) (c : Nat) : Cell → Cell
  | .own _ n _ => .ref k (p ++ [c]) 0 n
  | .obx _ => .ptr k (p ++ [c]) 0
  | x => x
@[simp] def lookL (k : Key) (p : List Nat) (c : Nat) : List Cell → List Cell
  | [] => []
  | x :: r => look k p c x :: lookL k p (c + 1) r
theorem look_VC {X : EM} {s : Sto} {k : Key} {p : List Nat} {c : Nat} {x : Cell} {v : Value} (h : HC X s k p c (sh x) v) : VC X s (look k p c x) v := by
  cases x with
  | own e n cs => exact h.1
  | obx cs => exact h
  | _ => exact h

theorem HRel.read {X : EM} {s : Sto} {w : World} (H : HRel X s w) {k : Key} {p : List Nat} {e : Nat} {cs : List Cell} (hb : s.blk k p = some (e, cs)) {c : Nat} {x : Cell} (hx : cs[c]? = some x) :
    ∃ v, w.cell? ((X k p).at c) = some v ∧ VC X s (look k p c x) v := by
  obtain ⟨v, h1, h2⟩ := H.cell k p e _ (Sto.blkS_of_blk hb) c (sh x) (by rw [List.getElem?_map, hx]; rfl)
  exact ⟨v, h1, look_VC h2⟩
theorem HRel.reads {X : EM} {s : Sto} {w : World} (H : HRel X s w) {k : Key} {p : List Nat} {e : Nat} {cs : List Cell} (hb : s.blk k p = some (e, cs)) :
    ∀ (xs : List Cell) (c : Nat), (∀ i x, xs[i]? = some x → cs[c + i]? = some x) → ∃ vs : List Value, (∀ i v, vs[i]? = some v → w.cell? ((X k p).at (c + i)) = some v) ∧ all2 (VC X s) (lookL k p c xs) vs
  | [], c, _ => ⟨[], by simp, trivial⟩
  | x :: r, c, h => by
    obtain ⟨v, h1, h2⟩ := H.read hb (h 0 x rfl)
    obtain ⟨vs, h3, h4⟩ := H.reads hb r (c + 1) (fun i y hy => by have := h (i + 1) y (by simpa using hy); rwa [show c + (i + 1) = c + 1 + i by omega] at this)
    refine ⟨v :: vs, fun i u hu => ?_, h2, h4⟩
    cases i with
    | zero => simp at hu; subst hu; exact h1
    | succ i => have := h3 i u (by simpa using hu); rwa [show c + 1 + i = c + (i + 1) by omega] at this

@[simp] def setM {α : Type} (cs : List α) (off : Nat) : List α → List α
  | [] => cs
  | x :: r => setM (cs.set off x) (off + 1) r

def aev (t : Tm) : Option Operand → Option (Option AV)
  | none => some none
  | some x => some (some (evo t x))

/-- A slice's or string's bound: absent, or a number. -/
def bnd (t : Tm) (dflt : Nat) : Option Operand → Option Nat
  | none => some dflt
  | some x => match evo t x with
    | .c (.sc (.int _ i)) => if 0 ≤ i then some i.toNat else none
    | _ => none

@[simp] def fills (t : Tm) (cs : List Cell) : List (Nat × Nat × Operand) → Option (List Cell)
  | [] => some cs
  | (off, sz, x) :: r => match (evo t x).cells with
    | some xs => if xs.length = sz ∧ off + sz ≤ cs.length then fills t (setM cs off xs) r else none
    | none => none

def mm2 (mx : Bool) : Option Value → Option Value → Option Value
  | some (.int k a), some (.int _ b) => some (.int k (if mx then (if b > a then b else a) else (if b < a then b else a)))
  | _, _ => none
def mmF (mx : Bool) : List (Option Value) → Option Value
  | some (.int k a) :: r => r.foldl (mm2 mx) (some (.int k a))
  | _ => none

def scv : AV → Option Value
  | .c (.sc u) => some u
  | _ => none

def aun : UnOp → Value → Option Value
  | .neg, .int k n => some (.int k (k.wrap (0 - n)))
  | .xor, .int k n => some (.int k (bits .xor k (if k.signed then -1 else k.max) n))
  | .not, .bool b => some (.bool (!b))
  | _, _ => none

/-- The values of cells that are scalars. -/
def scL : List Cell → Option (List Value)
  | [] => some []
  | .sc v :: r => (scL r).map (v :: ·)
  | _ => none
theorem scL_all2 {X : EM} {s : Sto} : ∀ {cs : List Cell} {vs us : List Value}, scL cs = some us → all2 (VC X s) cs vs → vs = us
  | [], [], us, h, _ => by cases h; rfl
  | [], _ :: _, _, _, h => by cases h
  | c :: r, [], us, h, h2 => by cases h2
  | c :: r, v :: vs, us, h, h2 => by
    cases c with
    | sc u =>
      obtain ⟨us', h3, rfl⟩ := Option.map_eq_some_iff.1 h
      have h4 : v = u := h2.1.1
      rw [scL_all2 h3 h2.2, h4]
    | _ => cases h
/-- What a closure captures: pointers. -/
def capL (t : Tm) : List Operand → Option (List Cell)
  | [] => some []
  | x :: r => match evo t x, capL t r with
    | .c (.ptr k p c), some l => some (.ptr k p c :: l)
    | _, _ => none
/-- Whether the cells of two values are the same: of each field its class (0 a number, 1 a truth, 2 a string). -/
def aeqL : List Nat → List Cell → List Cell → Option Bool
  | [], [], [] => some true
  | 0 :: ks, .sc (.int k a) :: xs, .sc (.int k' b) :: ys => if k = k' then (aeqL ks xs ys).map fun r => decide (a = b) && r else none
  | 1 :: ks, .sc (.bool a) :: xs, .sc (.bool b) :: ys => (aeqL ks xs ys).map fun r => (a == b) && r
  | 2 :: ks, .sc (.string a) :: xs, .sc (.string b) :: ys => (aeqL ks xs ys).map fun r => (a.toList == b.toList) && r
  | _, _, _ => none
/-- What the operations that leave memory alone hand back. -/
def aval (st : St) : AO → Option AV
  | .mv _ x => some (evo st.t x)
  | .pick _ c a b => match evo st.t c with
    | .c (.sc (.bool t)) => some (if t = true then evo st.t a else evo st.t b)
    | _ => none
  | .build _ zs parts => (fills st.t (zs.map .sc) parts).map .g
  | .load _ agg sz x => match evo st.t x with
    | .c (.ptr k p c) => match st.s.blk k p with
      | some (_, cs) => if agg then (if ((cs.drop c).take sz).length = sz then some (.g (lookL k p c ((cs.drop c).take sz))) else none)
          else match cs[c]? with
            | some x => some (.c (look k p c x))
            | none => none
      | none => none
    | _ => none
  | .nilc _ x => match evo st.t x with
    | .c (.ptr k p c) => some (.c (.ptr k p c))
    | _ => none
  | .faddr _ off x => match evo st.t x with
    | .c (.ptr k p c) => match st.s.blk k p with
      | some (_, cs) => if c + off ≤ cs.length then some (.c (.ptr k p (c + off))) else none
      | none => none
    | _ => none
  | .iaddr _ e x i => match evo st.t x, evo st.t i with
    | .c (.ref k p off n), .c (.sc (.int _ i)) => match st.s.blk k p with
      | some (e', _) => if e' = e ∧ 0 ≤ i ∧ i < n then some (.c (.ptr k p (off + i.toNat * e))) else none
      | none => none
    | _, _ => none
  | .len _ x => match evo st.t x with
    | .c (.ref _ _ _ n) => some (.c (.sc (.int .i64 n)))
    | .c (.sc (.slice _ n _)) => some (.c (.sc (.int .i64 n)))
    | _ => none
  | .slen _ x => match evo st.t x with
    | .c (.sc (.string s)) => some (.c (.sc (.int .i64 s.size)))
    | _ => none
  | .slice _ e x lo hi => match evo st.t x with
    | .c (.ref k p off n) => match st.s.blk k p, bnd st.t 0 lo, bnd st.t n hi with
      | some (e', _), some l, some h => if e' = e ∧ l ≤ h ∧ h ≤ n then some (.c (.ref k p (off + l * e) (h - l))) else none
      | _, _, _ => none
    | _ => none
  | .sslice _ x lo hi => match evo st.t x with
    | .c (.sc (.string s)) => match bnd st.t 0 lo, bnd st.t s.size hi with
      | some l, some h => if l ≤ h ∧ h ≤ s.size then some (.c (.sc (.string (s.extract l h)))) else none
      | _, _ => none
    | _ => none
  | .extr _ x i => match evo st.t x with
    | .tup vs => match vs[i]? with
      | some (true, xs) => some (.g xs)
      | some (false, [x]) => some (.c x)
      | _ => none
    | _ => none
  | .fld _ agg off sz x => match evo st.t x with
    | .g xs => if agg then (if ((xs.drop off).take sz).length = sz then some (.g ((xs.drop off).take sz)) else none) else (xs[off]?).map .c
    | _ => none
  | .bin _ op x y => match evo st.t x, evo st.t y with
    | .c (.sc a), .c (.sc b) => (abin op a b).map fun v => .c (.sc v)
    | _, _ => none
  | .beq _ neg x y => match evo st.t x, evo st.t y with
    | .c (.sc (.bool a)), .c (.sc (.bool b)) => some (.c (.sc (.bool (if neg = true then !(a == b) else a == b))))
    | _, _ => none
  | .un _ op x => match evo st.t x with
    | .c (.sc a) => (aun op a).map fun v => .c (.sc v)
    | _ => none
  | .conv _ k x => match evo st.t x with
    | .c (.sc (.int _ n)) => some (.c (.sc (.int k (k.wrap n))))
    | _ => none
  | .mm _ mx xs => (mmF mx (xs.map fun x => scv (evo st.t x))).map fun v => .c (.sc v)
  | .sidx _ x i => match evo st.t x, evo st.t i with
    | .c (.sc (.string s)), .c (.sc (.int _ i)) => if 0 ≤ i then (match s[i.toNat]? with
        | some b => some (.c (.sc (.int .u8 b.toNat)))
        | none => none) else none
    | _, _ => none
  | .mki _ t x => match evo st.t x with
    | .c (.sc v) => some (.c (.sc (.iface t v)))
    | .g cs => (scL cs).map fun vs => .c (.sc (.iface t (.agg vs.toArray)))
    | _ => none
  | .aeq _ neg ks x y => match evo st.t x, evo st.t y with
    | .g xs, .g ys => (aeqL ks xs ys).map fun r => .c (.sc (.bool (if neg = true then !r else r)))
    | _, _ => none
  | .clo _ f xs => (capL st.t xs).map fun cs => .c (.fn f cs)
  | _ => none

def AO.dst : AO → Tmp
  | .mv d .. | .pick d .. | .alloc d .. | .box d .. | .build d .. | .bslice d .. | .load d .. | .nilc d .. | .faddr d .. | .iaddr d .. | .len d .. | .slen d .. | .sslice d .. | .app d .. | .mslice d .. | .slice d .. | .extr d .. | .fld d ..
  | .bin d .. | .beq d .. | .un d .. | .conv d .. | .mm d .. | .sidx d .. | .mki d .. | .aeq d .. | .clo d .. => d
  | .store .. => 0
end Go.AK


/- The operations that leave memory alone hand back what was said. Conditions: none. -/
set_option linter.unusedSimpArgs false
set_option linter.unusedVariables false
namespace Go.AK
open Go

def szOf (P : Program) (t : TypeId) : Option Nat := (P.info? t).map (·.size)
def aggOf (P : Program) (t : TypeId) : Option Bool :=
  match P.underlying t with
  | some (.struct _) | some (.array _ _) => some true
  | some _ => some false
  | none => none
def zsOf (P : Program) (t : TypeId) : Option (List Value) :=
  match P.info? t with
  | some i => match i.zero with
    | some z => if z.cells.toList.all Value.oneCell' then some z.cells.toList else none
    | none => none
  | none => none

def fldOf (P : Program) (s : TypeId) (f : Nat) : Option (Nat × TypeId) :=
  match P.underlying s with
  | some (.struct fs) => (fs[f]?).map fun x => (x.offset, x.type)
  | _ => none
def elOf (P : Program) (t : TypeId) : Option TypeId :=
  match P.underlying t with
  | some (.slice e) => some e
  | _ => none
def partsOf (P : Program) (t : TypeId) : List (Nat × Operand) → Option (List (Nat × Nat × Operand))
  | [] => some []
  | (i, x) :: r => match fldOf P t i with
    | some (off, ty) => match szOf P ty with
      | some sz => (partsOf P t r).map ((off, sz, x) :: ·)
      | none => none
    | none => none
def fldsOk (P : Program) (t : TypeId) : Bool :=
  match P.underlying t with
  | some (.struct fs) => fs.toList.all fun f => (szOf P f.type).isSome
  | _ => false
def isInt (P : Program) (t : TypeId) : Option IntKind :=
  match P.underlying t with
  | some (.int k) => some k
  | _ => none
def isStr (P : Program) (t : TypeId) : Bool :=
  match P.underlying t with
  | some .string => true
  | _ => false

def isCon (P : Program) (t : TypeId) : Bool :=
  match P.underlying t with
  | some (.interface _) => false
  | some _ => true
  | none => false
theorem isCon_true {P : Program} {t : TypeId} (h : isCon P t = true) : ∃ d, P.underlying t = some d ∧ ∀ m, d ≠ .interface m := by
  unfold isCon at h
  cases hu : P.underlying t with
  | none => simp [hu] at h
  | some d => exact ⟨d, rfl, fun m hm => by rw [hu, hm] at h; simp at h⟩

def isBoolT (P : Program) (t : TypeId) : Bool :=
  match P.underlying t with
  | some .bool => true
  | _ => false
theorem isBoolT_spec {P : Program} {t : TypeId} (h : isBoolT P t = true) : P.underlying t = some .bool := by
  unfold isBoolT at h
  split at h
  · assumption
  · cases h
def clsT (P : Program) (t : TypeId) : Option Nat := match P.underlying t with
  | some (.int _) => some 0
  | some .bool => some 1
  | some .string => some 2
  | _ => none
def flatKs (P : Program) : Nat → List Field → Option (List Nat)
  | _, [] => some []
  | i, f :: r => match clsT P f.type, flatKs P (i + 1) r with
    | some c, some l => if f.name ≠ "_" ∧ f.offset = i then some (c :: l) else none
    | _, _ => none
/-- The classes of the fields of a struct that is compared field by field. -/
def flatT (P : Program) (t : TypeId) : Option (List Nat) := match P.underlying t with
  | some (.struct fs) => if P.stoodInHeld t = false ∧ P.eqGuardType P.depth t = false then flatKs P 0 fs.toList else none
  | _ => none
/-- An operation's form. -/
def form (P : Program) (cons : Bool) (d : Tmp) : Op → Option AO
  | .move x | .assign x => some (.mv d x)
  | .pick c a b => some (.pick d c a b)
  | .alloc e => (zsOf P e).map (.alloc d)
  | .box _ x => some (.box d x)
  | .build t ps => match zsOf P t, partsOf P t ps.toList with
    | some zs, some l => if fldsOk P t then some (.build d zs l) else none
    | _, _ => none
  | .buildSlice t len ps => match elOf P t with
    | some e => match szOf P e, zsOf P e with
      | some sz, some zs => if len * sz ≤ 2 ^ 24 ∧ sz = zs.length ∧ 0 < sz then some (.bslice d sz zs len ps.toList) else none
      | _, _ => none
    | none => none
  | .load t x => match aggOf P t, szOf P t with
    | some ag, some sz => some (.load d ag sz x)
    | _, _ => none
  | .nilCheck x => some (.nilc d x)
  | .fieldAddr s x f => match fldOf P s f with
    | some (off, t) => match szOf P t with
      | some sz => if sz = 0 then none else some (.faddr d off x)
      | none => none
    | none => none
  | .indexAddr t x i => match elOf P t with
    | some e => (szOf P e).map fun sz => .iaddr d sz x i
    | none => none
  | .makeSlice t l c => match elOf P t, l, c with
    | some e, .tmp i, .tmp j => match P.info? e, zsOf P e with
      | some inf, some zs => if i = j ∧ inf.size = zs.length ∧ 0 < inf.size then some (.mslice d inf.size inf.bytes zs l) else none
      | _, _ => none
    | _, _, _ => none
  | .slice t x lo hi none => match elOf P t with
    | some e => (szOf P e).map fun sz => .slice d sz x lo hi
    | none => if isStr P t then some (.sslice d x lo hi) else none
  | .extract x i => some (.extr d x i)
  | .field s x f => match fldOf P s f with
    | some (off, t) => match aggOf P t, szOf P t with
      | some ag, some sz => some (.fld d ag off sz x)
      | _, _ => none
    | none => none
  | .index t x i => if isStr P t then some (.sidx d x i) else none
  | .binOp op t x y _ => if isBoolT P t = true then (match op with
    | .eql => some (.beq d false x y)
    | .neq => some (.beq d true x y)
    | _ => none) else (match flatT P t with
    | some ks => (match op with
      | .eql => some (.aeq d false ks x y)
      | .neq => some (.aeq d true ks x y)
      | _ => none)
    | none => some (.bin d op x y))
  | .unOp op _ x => some (.un d op x)
  | .makeInterface t x => if isCon P t = true then some (.mki d t x) else none
  | .makeFunc (.func f) first xs => if first.isEmpty = true then some (.clo d f xs.toList) else none
  | .convert s t x => match isInt P s, isInt P t with
    | some _, some k => some (.conv d k x)
    | _, _ => none
  | .call { callee := .builtin .len, args, argTypes } => match args.toList, argTypes.toList with
    | [x], [t] => if (elOf P t).isSome then some (.len d x) else if isStr P t then some (.slen d x) else none
    | _, _ => none
  | .call { callee := .builtin .min, args, .. } => some (.mm d false args.toList)
  | .call { callee := .builtin .max, args, .. } => some (.mm d true args.toList)
  | .call { callee := .builtin .append, args, argTypes } => match args.toList, argTypes.toList with
    | [x, y], [t, u] => match elOf P t, elOf P u with
      | some e, some e' => match P.info? e with
        | some inf => if e = e' ∧ t = u ∧ 0 < inf.size ∧ (zsOf P e).map List.length = some inf.size then some (.app d inf.size inf.bytes cons x y) else none
        | none => none
      | _, _ => none
    | _, _ => none
  | _ => none

def comp (P : Program) (N : Nat) (cons : Bool) (o : Oper) : Option AO :=
  match o.dst with
  | some d => if d < N then form P cons d o.op else none
  | none => match o.op with
    | .store t x v => (szOf P t).map fun sz => .store sz x v
    | _ => none

theorem run_szOf {P : Program} {t : TypeId} {sz : Nat} (h : szOf P t = some sz) (w : World) : (sizeOf t).run P w = .ok sz w := by
  obtain ⟨i, h1, rfl⟩ := Option.map_eq_some_iff.1 h
  simp [sizeOf, typeInfo, h1]
theorem run_aggOf {P : Program} {t : TypeId} {b : Bool} (h : aggOf P t = some b) (w : World) : (isAgg t).run P w = .ok b w := by
  unfold aggOf at h
  cases hu : P.underlying t with
  | none => simp [hu] at h
  | some d => rw [hu] at h; cases d <;> simp at h <;> subst h <;> simp [isAgg, run_underlying hu]
theorem fldOf_some {P : Program} {s : TypeId} {f off : Nat} {t : TypeId} (h : fldOf P s f = some (off, t)) : ∃ fs fd, P.underlying s = some (.struct fs) ∧ fs[f]? = some fd ∧ fd.offset = off ∧ fd.type = t := by
  unfold fldOf at h
  cases hu : P.underlying s with
  | none => simp [hu] at h
  | some d =>
    rw [hu] at h
    cases d <;> simp at h
    rename_i fs
    obtain ⟨fd, h1, h2, h3⟩ := h
    exact ⟨fs, fd, rfl, h1, h2, h3⟩
theorem elOf_some {P : Program} {t e : TypeId} (h : elOf P t = some e) : P.underlying t = some (.slice e) := by
  unfold elOf at h
  cases hu : P.underlying t with
  | none => simp [hu] at h
  | some d => rw [hu] at h; cases d <;> simp at h; subst h; rfl
theorem isInt_some {P : Program} {t : TypeId} {k : IntKind} (h : isInt P t = some k) : P.underlying t = some (.int k) := by
  unfold isInt at h
  cases hu : P.underlying t with
  | none => simp [hu] at h
  | some d => rw [hu] at h; cases d <;> simp at h; subst h; rfl
theorem isStr_true {P : Program} {t : TypeId} (h : isStr P t = true) : P.underlying t = some .string := by
  unfold isStr at h
  cases hu : P.underlying t with
  | none => simp [hu] at h
  | some d => rw [hu] at h; cases d <;> simp at h; rfl

/-- The run of an operation that leaves the world as it is. -/
def Gives (P : Program) (o : Oper) (a : Act) (w : World) (v : Value) : Prop := (execOp a.eval o).run P w = .ok (.value v) w

section
variable {P : Program} {B : Base} {N : Nat} {X : EM} {st : St} {a : Act} {w : World}

theorem all2_take {α β : Type} {R : α → β → Prop} : ∀ {l : List α} {m : List β} (n : Nat), all2 R l m → all2 R (l.take n) (m.take n)
  | [], [], _, _ => by simp [all2]
  | a :: l, b :: m, 0, _ => by simp [all2]
  | a :: l, b :: m, n + 1, h => ⟨h.1, all2_take n h.2⟩
  | [], _ :: _, _, h => h.elim
  | _ :: _, [], _, h => h.elim
theorem all2_drop {α β : Type} {R : α → β → Prop} : ∀ {l : List α} {m : List β} (n : Nat), all2 R l m → all2 R (l.drop n) (m.drop n)
  | [], [], _, _ => by simp [all2]
  | a :: l, b :: m, 0, h => h
  | a :: l, b :: m, n + 1, h => all2_drop n h.2
  | [], _ :: _, _, h => h.elim
  | _ :: _, [], _, h => h.elim
theorem all2_set {α β : Type} {R : α → β → Prop} : ∀ {l : List α} {m : List β} (n : Nat) {x : α} {y : β}, all2 R l m → R x y → all2 R (l.set n x) (m.set n y)
  | [], [], _, _, _, _, _ => by simp [all2]
  | a :: l, b :: m, 0, _, _, h, hx => ⟨hx, h.2⟩
  | a :: l, b :: m, n + 1, _, _, h, hx => ⟨h.1, all2_set n h.2 hx⟩
  | [], _ :: _, _, _, _, h, _ => h.elim
  | _ :: _, [], _, _, _, h, _ => h.elim
theorem all2_setM {α β : Type} {R : α → β → Prop} : ∀ {xs : List α} {ys : List β} {l : List α} {m : List β} (n : Nat), all2 R l m → all2 R xs ys → all2 R (setM l n xs) (setM m n ys)
  | [], [], _, _, _, h, _ => h
  | x :: xs, y :: ys, _, _, n, h, hx => all2_setM (n + 1) (all2_set n h hx.1) hx.2
  | [], _ :: _, _, _, _, _, h => h.elim
  | _ :: _, [], _, _, _, _, h => h.elim
theorem setM_length {α : Type} : ∀ (xs : List α) (l : List α) (n : Nat), (setM l n xs).length = l.length
  | [], _, _ => rfl
  | x :: xs, l, n => by simp only [setM]; rw [setM_length]; simp

theorem foldl_setM (off : Nat) : ∀ (xs : List Value) (n : Nat) (cs : Array Value),
    ((xs.zipIdx n).foldl (fun cs (c, j) => cs.setIfInBounds (off + j) c) cs).toList = setM cs.toList (off + n) xs
  | [], _, _ => rfl
  | x :: xs, n, cs => by
    simp only [List.zipIdx_cons, List.foldl_cons, setM]
    rw [foldl_setM off xs (n + 1)]
    simp [Nat.add_assoc]

theorem arr_foldl_setM (off : Nat) (xs cs : Array Value) : (xs.zipIdx.foldl (fun cs (c, j) => cs.setIfInBounds (off + j) c) cs).toList = setM cs.toList off xs.toList := by
  have := foldl_setM off xs.toList 0 cs
  rw [← Array.foldl_toList, Array.toList_zipIdx]
  simpa using this

theorem build_fill {t : TypeId} {fs : Array Field} (hu : P.underlying t = some (.struct fs)) (I : InvX B N X st a w) : ∀ (ps : List (Nat × Operand)) (l : List (Nat × Nat × Operand)) (cs cs' : List Cell) (vs : Array Value),
    partsOf P t ps = some l → fills st.t cs l = some cs' → all2 (VC X st.s) cs vs.toList →
    ∀ places : Nat → Option (Nat × Nat), (∀ i off sz ty, fldOf P t i = some (off, ty) → szOf P ty = some sz → places i = some (off, sz)) →
    ∃ us, Instr.fill places vs (ps.map fun p => (p.1, a.eval p.2)) = some us ∧ all2 (VC X st.s) cs' us.toList := by
  intro ps
  induction ps with
  | nil => intro l cs cs' vs hl hf hv places hp; simp [partsOf] at hl; subst hl; simp [fills] at hf; subst hf; exact ⟨vs, rfl, hv⟩
  | cons p r ih =>
    obtain ⟨i, x⟩ := p
    intro l cs cs' vs hl hf hv places hp
    simp only [partsOf] at hl
    cases hfl : fldOf P t i with
    | none => simp [hfl] at hl
    | some q =>
      obtain ⟨off, ty⟩ := q
      rw [hfl] at hl
      cases hsz : szOf P ty with
      | none => simp [hsz] at hl
      | some sz =>
        simp only [hsz] at hl
        obtain ⟨l', h1, rfl⟩ := Option.map_eq_some_iff.1 hl
        simp only [fills] at hf
        cases hc : (evo st.t x).cells with
        | none => rw [hc] at hf; cases hf
        | some xs =>
          rw [hc] at hf
          simp only at hf
          by_cases hcond : xs.length = sz ∧ off + sz ≤ cs.length
          · rw [if_pos hcond] at hf
            have ha := VA_cells (I.ev x) hc
            have hlen := ha.length
            have hlen2 := hv.length
            simp only [List.map_cons, Instr.fill, hp i off sz ty hfl hsz]
            simp only [Array.length_toList] at hlen hlen2
            have hne : ((a.eval x).cells.size ≠ sz || off + (a.eval x).cells.size > vs.size) = false := by simp; omega
            rw [hne]
            simp only [Bool.false_eq_true, if_false]
            refine ih l' (setM cs off xs) cs' _ h1 hf ?_ places hp
            rw [arr_foldl_setM]
            exact all2_setM off hv ha
          · rw [if_neg hcond] at hf; cases hf
end
end Go.AK


/- Each operation that leaves memory alone hands back what was said. Conditions: none. -/
set_option linter.unusedSimpArgs false
set_option linter.unusedVariables false
namespace Go.AK
open Go

/-- Every cell of the one world is in the other as it was. -/
def Grows (w w' : World) : Prop := ∀ a v, w.cell? a = some v → w'.cell? a = some v
theorem Grows.refl (w : World) : Grows w w := fun _ _ h => h

section
variable {P : Program} {B : Base} {N : Nat} {X : EM} {st : St} {a : Act} {w : World}

def isLoad : Op → Bool
  | .load .. => true
  | _ => false
def Val (P : Program) (X : EM) (s : Sto) (o : Oper) (a : Act) (w : World) (av : AV) : Prop := ∃ v, (∀ w', (isLoad o.op = true → Grows w w') → (execOp a.eval o).run P w' = .ok (.value v) w') ∧ VA X s av v

theorem val_mv (I : InvX B N X st a w) {o : Oper} {x : Operand} (ho : o.op = .move x ∨ o.op = .assign x) : Val P X st.s o a w (evo st.t x) :=
  ⟨a.eval x, fun w' _ => by rcases ho with ho | ho <;> simp [execOp, ho], I.ev x⟩

theorem val_pick (I : InvX B N X st a w) {o : Oper} {c x y : Operand} (ho : o.op = .pick c x y) {t : Bool} (hc : evo st.t c = .c (.sc (.bool t))) :
    Val P X st.s o a w (if t = true then evo st.t x else evo st.t y) := by
  have h := I.sc hc
  refine ⟨if t then a.eval x else a.eval y, fun w' _ => by simp [execOp, ho, h, asBool], ?_⟩
  cases t
  · exact I.ev y
  · exact I.ev x

theorem val_nilc (I : InvX B N X st a w) {o : Oper} {x : Operand} (ho : o.op = .nilCheck x) {k : Key} {p : List Nat} {c : Nat} (hx : evo st.t x = .c (.ptr k p c)) : Val P X st.s o a w (.c (.ptr k p c)) := by
  have h := I.ev x
  rw [hx] at h
  obtain ⟨e, cs, h1, h2, h3⟩ := h
  exact ⟨_, fun w' _ => by simp [execOp, ho, h3], ⟨e, cs, h1, h2, rfl⟩⟩

theorem blk_of_blkS {s : Sto} {k : Key} {p : List Nat} {e : Nat} {cs : List Cell} (h : s.blkS k p = some (e, cs)) {e' : Nat} {cs' : List Cell} (h' : s.blk k p = some (e', cs')) : e' = e ∧ cs'.length = cs.length := by
  have := Sto.blkS_of_blk h'
  rw [h] at this
  simp at this
  exact ⟨this.1.symm, by rw [this.2]; simp⟩

theorem val_faddr (I : InvX B N X st a w) {o : Oper} {s : TypeId} {x : Operand} {f : Nat} (ho : o.op = .fieldAddr s x f) {off : Nat} {t : TypeId} (hf : fldOf P s f = some (off, t)) {sz : Nat} (hz : szOf P t = some sz) (hz0 : sz ≠ 0)
    {k : Key} {p : List Nat} {c : Nat} (hx : evo st.t x = .c (.ptr k p c)) {e : Nat} {cs : List Cell} (hb : st.s.blk k p = some (e, cs)) (hl : c + off ≤ cs.length) : Val P X st.s o a w (.c (.ptr k p (c + off))) := by
  have h := I.ev x
  rw [hx] at h
  obtain ⟨e', cs', h1, h2, h3⟩ := h
  obtain ⟨fs, fd, hu, hfd, rfl, rfl⟩ := fldOf_some hf
  obtain ⟨rfl, hlen⟩ := blk_of_blkS h1 hb
  have hr := run_szOf hz
  exact ⟨.pointer (some ((X k p).at (c + fd.offset))), fun w' _ => by simp [execOp, ho, Instr.fieldAt, run_underlying hu, hfd, h3, Instr.sureAddr, fieldPlace, hr, hz0, Ext.at_add], ⟨_, cs', h1, by omega, rfl⟩⟩

theorem val_iaddr (I : InvX B N X st a w) {o : Oper} {t : TypeId} {x i : Operand} (ho : o.op = .indexAddr t x i) {el : TypeId} (he : elOf P t = some el) {sz : Nat} (hz : szOf P el = some sz)
    {k : Key} {p : List Nat} {off n : Nat} (hx : evo st.t x = .c (.ref k p off n)) {ik : IntKind} {j : Int} (hi : evo st.t i = .c (.sc (.int ik j))) {cs : List Cell} (hb : st.s.blk k p = some (sz, cs)) (h0 : 0 ≤ j) (h1 : j < n) :
    Val P X st.s o a w (.c (.ptr k p (off + j.toNat * sz))) := by
  have h := I.ev x
  rw [hx] at h
  obtain ⟨e', cs', cap, ad, h2, h3, h4, h5, h6⟩ := h
  obtain ⟨rfl, hlen⟩ := blk_of_blkS h2 hb
  have hu := elOf_some he
  have hr := run_szOf hz
  have hj := I.sc hi
  have hcap : cap ≠ 0 := by omega
  obtain ⟨rfl, h7⟩ := h6.resolve_left hcap
  have hjn : j.toNat < n := by omega
  refine ⟨.pointer (some ((X k p).at (off + j.toNat * sz))), ?_, ⟨_, cs', h2, ?_, rfl⟩⟩
  · (intro w' hw'; simp [execOp, ho, Instr.indexAt, hj, asIntOf, h5, run_underlying hu, h0, h1, hr, Ext.at_add])
  · have : j.toNat * sz ≤ n * sz := Nat.mul_le_mul_right _ (by omega)
    omega

theorem val_len (I : InvX B N X st a w) {o : Oper} {x : Operand} {t : TypeId} {ar : Array Operand} {at_ : Array TypeId} (ho : o.op = .call { callee := .builtin .len, args := ar, argTypes := at_ }) (ha : ar.toList = [x]) (hat : at_.toList = [t])
    (ht : (elOf P t).isSome = true) {av : AV} (hav : aval st (.len 0 x) = some av) : Val P X st.s o a w av := by
  have ha' : ar = #[x] := by rw [← Array.toList_inj]; exact ha
  have hat' : at_ = #[t] := by rw [← Array.toList_inj]; exact hat
  subst ha' hat'
  have h := I.ev x
  obtain ⟨e, he⟩ := Option.isSome_iff_exists.1 ht
  simp only [aval] at hav
  split at hav
  · rename_i k p off n hx
    rw [hx] at h
    obtain ⟨e', cs', cap, ad, h2, h3, h4, h5, h6⟩ := h
    cases hav
    exact ⟨.int .i64 n, fun w' _ => by simp [execOp, ho, resolve, invoke, builtin, Builtin.len_, run_underlying (elOf_some he), h5, goInt], rfl, rfl⟩
  · rename_i u n c hx
    rw [hx] at h
    obtain ⟨h5, h6⟩ := h
    cases hav
    exact ⟨.int .i64 n, fun w' _ => by simp [execOp, ho, resolve, invoke, builtin, Builtin.len_, run_underlying (elOf_some he), h5, goInt], rfl, rfl⟩
  · cases hav

theorem val_slen (I : InvX B N X st a w) {o : Oper} {x : Operand} {t : TypeId} {ar : Array Operand} {at_ : Array TypeId} (ho : o.op = .call { callee := .builtin .len, args := ar, argTypes := at_ }) (ha : ar.toList = [x]) (hat : at_.toList = [t])
    (ht : isStr P t = true) {av : AV} (hav : aval st (.slen 0 x) = some av) : Val P X st.s o a w av := by
  have ha' : ar = #[x] := by rw [← Array.toList_inj]; exact ha
  have hat' : at_ = #[t] := by rw [← Array.toList_inj]; exact hat
  subst ha' hat'
  simp only [aval] at hav
  split at hav
  · rename_i s hx
    have h5 := I.sc hx
    cases hav
    exact ⟨.int .i64 s.size, fun w' _ => by simp [execOp, ho, resolve, invoke, builtin, Builtin.len_, run_underlying (isStr_true ht), h5, goInt], rfl, rfl⟩
  · cases hav

theorem run_bnd (I : InvX B N X st a w) {x : Option Operand} {d l y : Nat} (h : bnd st.t d x = some l) (hl : l ≤ y) (c : BoundsCode) :
    ∀ w', (match x with | some v => Instr.sliceBound (a.eval v) y c | none => (pure d : Sem Nat)).run P w' = .ok l w' := by
  intro w'
  cases x with
  | none => cases h; rfl
  | some v =>
    simp only [bnd] at h
    split at h
    · rename_i k i hx
      have hi := I.sc hx
      by_cases h0 : 0 ≤ i
      · rw [if_pos h0] at h; cases h
        simp only [hi]
        simp only [Instr.sliceBound, asIntOf, Sem.run_bind, Sem.run_pure, Result.andThen]
        rw [if_pos ⟨h0, by omega⟩]; rfl
      · rw [if_neg h0] at h; cases h
    · cases h

theorem run_bounds (I : InvX B N X st a w) {lo hi : Option Operand} {len cap l h : Nat} {b : Bool} (hlo : bnd st.t 0 lo = some l) (hhi : bnd st.t len hi = some h) (hlh : l ≤ h) (hc : h ≤ cap) :
    ∀ w', (Instr.sliceBounds b len cap (lo.map a.eval) (hi.map a.eval) none).run P w' = .ok (l, h, cap) w' := by
  intro w'
  have h1 := run_bnd (P := P) I hhi hc (if b then .sliceAcap else .sliceAlen)
  have h2 := run_bnd (P := P) I hlo hlh .sliceB
  unfold Instr.sliceBounds
  cases lo <;> cases hi <;> simp_all

theorem val_slice (I : InvX B N X st a w) {o : Oper} {x : Operand} {lo hi : Option Operand} {t el : TypeId} (ho : o.op = .slice t x lo hi none) (he : elOf P t = some el) {sz : Nat} (hz : szOf P el = some sz)
    {av : AV} (hav : aval st (.slice 0 sz x lo hi) = some av) : Val P X st.s o a w av := by
  have hh := I.ev x
  simp only [aval] at hav
  split at hav
  · rename_i k p off n hx
    rw [hx] at hh
    obtain ⟨e', cs', cap, ad, h2, h3, h4, h5, h6⟩ := hh
    split at hav
    · rename_i e cs l h hb hlo hhi
      obtain ⟨rfl, hlen⟩ := blk_of_blkS h2 hb
      split at hav
      · rename_i hc
        obtain ⟨rfl, hlh, hhn⟩ := hc
        cases hav
        have hr := run_bounds (P := P) (b := true) (len := n) (cap := cap) I hlo hhi hlh (by omega)
        have hu := elOf_some he
        have hs := run_szOf hz
        have e1 : (l * e) ≤ h * e := Nat.mul_le_mul_right _ hlh
        have e2 : (h * e) ≤ n * e := Nat.mul_le_mul_right _ hhn
        refine ⟨.slice (if cap = l then ad else ad.map (·.add (l * e))) (h - l) (cap - l), ?_, e, cs', cap - l, if cap = l then ad else ad.map (·.add (l * e)), h2, ?_, by omega, rfl, ?_⟩
        · (intro w' hw'; simp [execOp, ho, Instr.sliceAt, run_underlying hu, Instr.slice, h5, hr, hs])
        · rw [Nat.sub_mul]; omega
        · by_cases hcl : cap = l
          · left; omega
          · right
            rw [if_neg hcl]
            obtain ⟨rfl, h7⟩ := h6.resolve_left (by omega)
            refine ⟨by simp [Ext.at_add], ?_⟩
            rw [Nat.sub_mul]
            have : l * e ≤ cap * e := Nat.mul_le_mul_right _ (by omega)
            omega
      · cases hav
    · cases hav
  · cases hav

theorem val_sslice (I : InvX B N X st a w) {o : Oper} {x : Operand} {lo hi : Option Operand} {t : TypeId} (ho : o.op = .slice t x lo hi none) (ht : isStr P t = true)
    {av : AV} (hav : aval st (.sslice 0 x lo hi) = some av) : Val P X st.s o a w av := by
  simp only [aval] at hav
  split at hav
  · rename_i s hx
    have h5 := I.sc hx
    split at hav
    · rename_i l h hlo hhi
      split at hav
      · rename_i hc
        cases hav
        have hr := run_bounds (P := P) (b := false) (len := s.size) (cap := s.size) I hlo hhi hc.1 hc.2
        have hu := isStr_true ht
        exact ⟨.string (s.extract l h), fun w' _ => by simp [execOp, ho, Instr.sliceAt, run_underlying hu, Instr.slice, h5, hr], rfl, rfl⟩
      · cases hav
    · cases hav
  · cases hav

theorem val_extr (I : InvX B N X st a w) {o : Oper} {x : Operand} {i : Nat} (ho : o.op = .extract x i) {av : AV} (hav : aval st (.extr 0 x i) = some av) : Val P X st.s o a w av := by
  have h := I.ev x
  simp only [aval] at hav
  split at hav
  · rename_i vs hx
    rw [hx] at h
    obtain ⟨us, hu, h1⟩ := h
    split at hav
    · rename_i xs hv
      cases hav
      obtain ⟨u, h2, h3⟩ := h1.get hv
      exact ⟨u, fun w' _ => by simp [execOp, ho, hu, Instr.extract, h2], h3⟩
    · rename_i y hv
      cases hav
      obtain ⟨u, h2, h3⟩ := h1.get hv
      obtain ⟨y', h4, h5⟩ := h3
      cases h4
      exact ⟨u, fun w' _ => by simp [execOp, ho, hu, Instr.extract, h2], h5⟩
    · cases hav
  · cases hav

theorem val_bin (I : InvX B N X st a w) {o : Oper} {op : BinOp} {t u : TypeId} {x y : Operand} (ho : o.op = .binOp op t x y u) {av : AV} (hav : aval st (.bin 0 op x y) = some av) : Val P X st.s o a w av := by
  simp only [aval] at hav
  split at hav
  · rename_i p q hx hy
    obtain ⟨v, h1, rfl⟩ := Option.map_eq_some_iff.1 hav
    have hr := abin_run (P := P) h1 t x y
    have hv : v.oneCell' = true := by
      revert h1; cases op <;> cases p <;> cases q <;> simp only [abin, reduceCtorEq, false_implies] <;> intro h1
      all_goals (repeat' (split at h1))
      all_goals first | (cases h1; rfl) | (cases h1)
    refine ⟨v, ?_, rfl, hv⟩
    simp only [Sem.run_bind] at hr
    intro w' _
    simp only [execOp, ho, I.sc hx, I.sc hy, Sem.run_bind]
    rw [hr]; rfl
  · cases hav

theorem val_beq (I : InvX B N X st a w) {o : Oper} {neg : Bool} {t u : TypeId} {x y : Operand} (ht : isBoolT P t = true) (ho : o.op = .binOp (if neg = true then .neq else .eql) t x y u) {av : AV} (hav : aval st (.beq 0 neg x y) = some av) : Val P X st.s o a w av := by
  simp only [aval] at hav
  split at hav
  · rename_i p q hx hy
    cases hav
    have ht' := isBoolT_spec ht
    refine ⟨_, fun w' _ => ?_, rfl, rfl⟩
    cases neg with
    | true => simp [execOp, ho, I.sc hx, I.sc hy, eqGuard, run_equal_bool w' t p q ht', binOp]
    | false => simp [execOp, ho, I.sc hx, I.sc hy, eqGuard, run_equal_bool w' t p q ht', binOp]
  · cases hav

theorem run_part_sc {t : TypeId} {c : Nat} (hc : clsT P t = some c) {xs : Array Value} {i : Nat} {v : Value} (h : xs[i]? = some v) (w : World) : (part t xs i).run P w = .ok v w := by
  have ha : aggOf P t = some false := by
    unfold clsT at hc
    unfold aggOf
    split at hc <;> first | (rename_i hu; rw [hu]) | cases hc
  simp [part, run_aggOf ha, h]
theorem aeqL_nil {cs ds : List Cell} {r : Bool} (h : aeqL [] cs ds = some r) : r = true := by
  cases cs <;> cases ds <;> simp_all [aeqL]
theorem aeqL_0 {ks : List Nat} {cs ds : List Cell} {r : Bool} (h : aeqL (0 :: ks) cs ds = some r) : ∃ k a b cs' ds' r2, cs = .sc (.int k a) :: cs' ∧ ds = .sc (.int k b) :: ds' ∧ aeqL ks cs' ds' = some r2 ∧ r = (decide (a = b) && r2) := by
  unfold aeqL at h
  split at h
  · contradiction
  · rename_i h0; cases h0
    split at h
    · rename_i hk; subst hk
      obtain ⟨r2, h3, rfl⟩ := Option.map_eq_some_iff.1 h
      exact ⟨_, _, _, _, _, r2, rfl, rfl, h3, rfl⟩
    · cases h
  · rename_i h0; cases h0
  · rename_i h0; cases h0
  · cases h
theorem aeqL_1 {ks : List Nat} {cs ds : List Cell} {r : Bool} (h : aeqL (1 :: ks) cs ds = some r) : ∃ a b cs' ds' r2, cs = .sc (.bool a) :: cs' ∧ ds = .sc (.bool b) :: ds' ∧ aeqL ks cs' ds' = some r2 ∧ r = ((a == b) && r2) := by
  unfold aeqL at h
  split at h
  · contradiction
  · rename_i h0; cases h0
  · rename_i h0; cases h0
    obtain ⟨r2, h3, rfl⟩ := Option.map_eq_some_iff.1 h
    exact ⟨_, _, _, _, r2, rfl, rfl, h3, rfl⟩
  · rename_i h0; cases h0
  · cases h
theorem aeqL_2 {ks : List Nat} {cs ds : List Cell} {r : Bool} (h : aeqL (2 :: ks) cs ds = some r) : ∃ a b cs' ds' r2, cs = .sc (.string a) :: cs' ∧ ds = .sc (.string b) :: ds' ∧ aeqL ks cs' ds' = some r2 ∧ r = ((a.toList == b.toList) && r2) := by
  unfold aeqL at h
  split at h
  · contradiction
  · rename_i h0; cases h0
  · rename_i h0; cases h0
  · rename_i h0; cases h0
    obtain ⟨r2, h3, rfl⟩ := Option.map_eq_some_iff.1 h
    exact ⟨_, _, _, _, r2, rfl, rfl, h3, rfl⟩
  · cases h
theorem clsT_cases {t : TypeId} {c : Nat} (h : clsT P t = some c) : (c = 0 ∧ ∃ k, P.underlying t = some (.int k)) ∨ (c = 1 ∧ P.underlying t = some .bool) ∨ (c = 2 ∧ P.underlying t = some .string) := by
  unfold clsT at h
  split at h <;> first | (cases h; done) | (cases h; rename_i hu; simp [hu])
theorem eqFields_flat {X : EM} {s : Sto} (w : World) (d : Nat) (xs ys : Array Value) : ∀ (fs : List Field) (i : Nat) (ks : List Nat) (cs ds : List Cell) (r : Bool), flatKs P i fs = some ks → all2 (VC X s) cs (xs.toList.drop i) → all2 (VC X s) ds (ys.toList.drop i) → aeqL ks cs ds = some r →
    (Op.eqFields (d + 1) xs ys fs).run P w = .ok r w
  | [], i, ks, cs, ds, r, hk, hx, hy, hr => by
    simp only [flatKs, Option.some.injEq] at hk
    subst hk
    have := aeqL_nil hr
    subst this
    simp [Op.eqFields]
  | f :: fs, i, ks, cs, ds, r, hk, hx, hy, hr => by
    simp only [flatKs] at hk
    split at hk
    · rename_i c l hc hl
      split at hk
      · rename_i hn
        cases hk
        have step : ∀ (a b : Value) (cs' ds' : List Cell) (r1 r2 : Bool), xs.toList[i]? = some a → ys.toList[i]? = some b → all2 (VC X s) cs' (xs.toList.drop (i + 1)) → all2 (VC X s) ds' (ys.toList.drop (i + 1)) → aeqL l cs' ds' = some r2 → (Op.equalIn (d + 1) f.type a b).run P w = .ok r1 w → r = (r1 && r2) →
            (Op.eqFields (d + 1) xs ys (f :: fs)).run P w = .ok r w := fun a b cs' ds' r1 r2 ha hb h1 h2 h3 h4 h5 => by
          have ih := eqFields_flat w d xs ys fs (i + 1) l cs' ds' r2 hl h1 h2 h3
          simp only [Op.eqFields, if_pos hn.1, Sem.run_bind, hn.2, run_part_sc hc (show xs[i]? = some a by simpa using ha) w, run_part_sc hc (show ys[i]? = some b by simpa using hb) w, Result.andThen_ok, h4]
          cases r1 with
          | true => simp [ih, h5]
          | false => simp [h5]
        have hd : ∀ {zs : List Value} {c : Cell} {cs : List Cell}, all2 (VC X s) (c :: cs) (zs.drop i) → ∃ a, zs[i]? = some a ∧ VC X s c a ∧ all2 (VC X s) cs (zs.drop (i + 1)) := fun {zs c cs} h => by
          cases hz : zs.drop i with
          | nil => rw [hz] at h; exact h.elim
          | cons a t =>
            rw [hz] at h
            have e1 : zs[i]? = some a := by have := congrArg (·[0]?) hz; simpa using this
            have e2 : zs.drop (i + 1) = t := by rw [← List.drop_drop, hz]; rfl
            exact ⟨a, e1, h.1, e2 ▸ h.2⟩
        rcases clsT_cases hc with ⟨rfl, k, hu⟩ | ⟨rfl, hu⟩ | ⟨rfl, hu⟩
        · obtain ⟨k', a, b, cs', ds', r2, rfl, rfl, h3, h5⟩ := aeqL_0 hr
          obtain ⟨va, ha, ea, ta⟩ := hd hx
          obtain ⟨vb, hb, eb, tb⟩ := hd hy
          obtain ⟨rfl, _⟩ := ea
          obtain ⟨rfl, _⟩ := eb
          exact step _ _ cs' ds' _ r2 ha hb ta tb h3 (Go.run_equalIn_int w d f.type k' k a b hu) h5
        · obtain ⟨a, b, cs', ds', r2, rfl, rfl, h3, h5⟩ := aeqL_1 hr
          obtain ⟨va, ha, ea, ta⟩ := hd hx
          obtain ⟨vb, hb, eb, tb⟩ := hd hy
          obtain ⟨rfl, _⟩ := ea
          obtain ⟨rfl, _⟩ := eb
          exact step _ _ cs' ds' _ r2 ha hb ta tb h3 (Go.run_equalIn_bool' w d f.type a b hu) h5
        · obtain ⟨a, b, cs', ds', r2, rfl, rfl, h3, h5⟩ := aeqL_2 hr
          obtain ⟨va, ha, ea, ta⟩ := hd hx
          obtain ⟨vb, hb, eb, tb⟩ := hd hy
          obtain ⟨rfl, _⟩ := ea
          obtain ⟨rfl, _⟩ := eb
          exact step _ _ cs' ds' _ r2 ha hb ta tb h3 (Go.run_equalIn_string w d f.type a b hu) h5
      · cases hk
    · cases hk

theorem val_aeq (I : InvX B N X st a w) {o : Oper} {neg : Bool} {t u : TypeId} {x y : Operand} {ks : List Nat} (ht : flatT P t = some ks) (ho : o.op = .binOp (if neg = true then .neq else .eql) t x y u) {av : AV} (hav : aval st (.aeq 0 neg ks x y) = some av) : Val P X st.s o a w av := by
  simp only [aval] at hav
  split at hav
  · rename_i xs ys hx hy
    obtain ⟨r, h1, rfl⟩ := Option.map_eq_some_iff.1 hav
    unfold flatT at ht
    split at ht
    · rename_i fs hu
      split at ht
      · rename_i hg
        have hf : P.fieldsOf t = fs := by simp [Program.fieldsOf, hu]
        have ex := I.ev x
        have ey := I.ev y
        rw [hx] at ex
        rw [hy] at ey
        obtain ⟨vs, ex, ax⟩ := ex
        obtain ⟨us, ey, ay⟩ := ey
        have he : ∀ w', (Op.equalIn 10000 t (.agg vs.toArray) (.agg us.toArray)).run P w' = .ok r w' := fun w' => by
          rw [run_equalIn_agg w' 9999 t vs.toArray us.toArray (by rw [hf]; exact hu) hg.1, hf]
          exact eqFields_flat w' 9998 _ _ fs.toList 0 ks xs ys r ht (by simpa using ax) (by simpa using ay) h1
        refine ⟨_, fun w' _ => ?_, rfl, rfl⟩
        cases neg with
        | true => simp [execOp, ho, ex, ey, run_eqGuard_agg, hg.2, run_neq_struct, he]
        | false => simp [execOp, ho, ex, ey, run_eqGuard_agg, hg.2, run_eql_struct, he]
      · cases ht
    · cases ht
  · cases hav
theorem val_un (I : InvX B N X st a w) {o : Oper} {op : UnOp} {t : TypeId} {x : Operand} (ho : o.op = .unOp op t x) {av : AV} (hav : aval st (.un 0 op x) = some av) : Val P X st.s o a w av := by
  simp only [aval] at hav
  split at hav
  · rename_i p hx
    obtain ⟨v, h1, rfl⟩ := Option.map_eq_some_iff.1 hav
    unfold aun at h1
    split at h1
    · cases h1; exact ⟨_, fun w' _ => by simp [execOp, ho, I.sc hx, Op.unary, Op.intArith]; rfl, by simp, rfl⟩
    · cases h1; exact ⟨_, fun w' _ => by simp [execOp, ho, I.sc hx, Op.unary, intBits_xor]; rfl, by simp, rfl⟩
    · cases h1; exact ⟨_, fun w' _ => by simp [execOp, ho, I.sc hx, Op.unary]; rfl, by simp, rfl⟩
    · cases h1
  · cases hav

theorem val_conv (I : InvX B N X st a w) {o : Oper} {s t : TypeId} {x : Operand} (ho : o.op = .convert s t x) {k k' : IntKind} (hs : isInt P s = some k') (ht : isInt P t = some k) {av : AV} (hav : aval st (.conv 0 k x) = some av) : Val P X st.s o a w av := by
  simp only [aval] at hav
  split at hav
  · rename_i q n hx
    cases hav
    have h1 := isInt_some hs
    have h2 := isInt_some ht
    exact ⟨.int k (k.wrap n), fun w' _ => by simp [execOp, ho, I.sc hx, convert, run_underlying h1, run_underlying h2, Conv.intToInt], rfl, rfl⟩
  · cases hav

theorem capL_spec (I : InvX B N X st a w) : ∀ {xs : List Operand} {cs : List Cell}, capL st.t xs = some cs → all2 (VC1 X st.s) cs (xs.map a.eval)
  | [], cs, h => by cases h; trivial
  | x :: r, cs, h => by
    simp only [capL] at h
    split at h
    · rename_i k p c l hx hr
      cases h
      have h1 := I.ev x
      rw [hx] at h1
      exact ⟨h1, capL_spec I hr⟩
    · cases h
theorem val_clo (I : InvX B N X st a w) {o : Oper} {f : FuncId} {first xs : Array Operand} (ho : o.op = .makeFunc (.func f) first xs) (hf : first.isEmpty = true) {av : AV} (hav : aval st (.clo 0 f xs.toList) = some av) : Val P X st.s o a w av := by
  simp only [aval] at hav
  obtain ⟨cs, h1, rfl⟩ := Option.map_eq_some_iff.1 hav
  have he : first = #[] := by simpa using hf
  refine ⟨.func (.func f) #[] (xs.map a.eval), fun w' _ => by simp [execOp, ho, Instr.makeFunc, he], (xs.toList).map a.eval, by rw [← Array.toList_map, Array.toArray_toList], capL_spec I h1⟩
theorem val_mki (I : InvX B N X st a w) {o : Oper} {t : TypeId} {x : Operand} (ho : o.op = .makeInterface t x) (ht : isCon P t = true) {av : AV} (hav : aval st (.mki 0 t x) = some av) : Val P X st.s o a w av := by
  obtain ⟨d, hd, hn⟩ := isCon_true ht
  have hrun : ∀ w', (execOp a.eval o).run P w' = .ok (.value (.iface t (a.eval x))) w' := fun w' => by
    cases d <;> first | exact absurd rfl (hn _) | simp [execOp, ho, Instr.makeInterface, run_underlying hd]
  simp only [aval] at hav
  split at hav
  · rename_i u hx
    cases hav
    exact ⟨_, fun w' _ => hrun w', by rw [I.sc hx], rfl⟩
  · rename_i cs hx
    obtain ⟨us, h1, rfl⟩ := Option.map_eq_some_iff.1 hav
    have h2 := I.ev x
    rw [hx] at h2
    obtain ⟨vs, h3, h4⟩ := h2
    rw [scL_all2 h1 h4] at h3
    exact ⟨_, fun w' _ => hrun w', by rw [h3], rfl⟩
  · cases hav

theorem val_sidx (I : InvX B N X st a w) {o : Oper} {t : TypeId} {x i : Operand} (ho : o.op = .index t x i) (ht : isStr P t = true) {av : AV} (hav : aval st (.sidx 0 x i) = some av) : Val P X st.s o a w av := by
  simp only [aval] at hav
  split at hav
  · rename_i s k j hx hi
    split at hav
    · rename_i h0
      split at hav
      · rename_i b hb
        cases hav
        exact ⟨.int .u8 b.toNat, fun w' _ => by simp [execOp, ho, I.sc hx, I.sc hi, Instr.index, asIntOf, run_underlying (isStr_true ht), h0, hb], rfl, rfl⟩
      · cases hav
    · cases hav
  · cases hav

theorem val_fld (I : InvX B N X st a w) {o : Oper} {s : TypeId} {x : Operand} {f : Nat} (ho : o.op = .field s x f) {off : Nat} {t : TypeId} (hf : fldOf P s f = some (off, t)) {ag : Bool} (hag : aggOf P t = some ag) {sz : Nat} (hz : szOf P t = some sz)
    {av : AV} (hav : aval st (.fld 0 ag off sz x) = some av) : Val P X st.s o a w av := by
  have h := I.ev x
  obtain ⟨fs, fd, hu, hfd, rfl, rfl⟩ := fldOf_some hf
  simp only [aval] at hav
  split at hav
  · rename_i xs hx
    rw [hx] at h
    obtain ⟨vs, h1, h2⟩ := h
    have hr1 := run_aggOf hag
    have hr2 := run_szOf hz
    cases ag with
    | true =>
      simp only [if_true] at hav
      split at hav
      · rename_i hlen
        cases hav
        refine ⟨.agg (vs.toArray.extract fd.offset (fd.offset + sz)), ?_, (vs.drop fd.offset).take sz, ?_, all2_take _ (all2_drop _ h2)⟩
        · (intro w' hw'; simp [execOp, ho, Instr.field, run_underlying hu, hfd, h1, asAgg, part, hr1, hr2])
        · congr 1
          apply Array.ext'
          simp only [Array.toList_extract, List.extract_eq_take_drop, Nat.add_sub_cancel_left]
      · cases hav
    | false =>
      simp only [Bool.false_eq_true, if_false] at hav
      obtain ⟨y, h3, rfl⟩ := Option.map_eq_some_iff.1 hav
      obtain ⟨v, h4, h5⟩ := h2.get h3
      exact ⟨v, fun w' _ => by simp [execOp, ho, Instr.field, run_underlying hu, hfd, h1, asAgg, part, hr1, h4], h5⟩
  · cases hav

theorem val_load (I : InvX B N X st a w) {o : Oper} {t : TypeId} {x : Operand} (ho : o.op = .load t x) {ag : Bool} (hag : aggOf P t = some ag) {sz : Nat} (hz : szOf P t = some sz)
    {av : AV} (hav : aval st (.load 0 ag sz x) = some av) : Val P X st.s o a w av := by
  have h := I.ev x
  simp only [aval] at hav
  split at hav
  · rename_i k p c hx
    rw [hx] at h
    obtain ⟨e', cs', h1, h2, h3⟩ := h
    have hr1 := run_aggOf hag
    have hr2 := run_szOf hz
    split at hav
    · rename_i e cs hb
      cases ag with
      | true =>
        simp only [if_true] at hav
        split at hav
        · rename_i hlen
          cases hav
          obtain ⟨vs, h4, h5⟩ := I.rel.reads hb ((cs.drop c).take sz) c (fun i y hy => by
            rw [List.getElem?_take] at hy
            split at hy
            · rwa [List.getElem?_drop] at hy
            · cases hy)
          have hvl : vs.length = sz := by
            have := h5.length
            have h6 : ∀ (k : Key) (p : List Nat) (l : List Cell) (c : Nat), (lookL k p c l).length = l.length := fun k p l => by
              induction l with
              | nil => intro c; rfl
              | cons y l ih => intro c; simp [ih]
            rw [h6, hlen] at this
            exact this.symm
          refine ⟨.agg vs.toArray, ?_, vs, rfl, h5⟩
          intro w' hw'
          replace hw' := hw' (by rw [ho]; rfl)
          have hlc := run_loadCells_list (P := P) w' ((X k p).at c) vs (fun j v hv => by rw [Ext.at_add]; exact hw' _ _ (h4 j v hv))
          rw [hvl] at hlc
          (simp [execOp, ho, Instr.loadAt, h3, Instr.sureAddr, loadVar, hr1, hr2, hlc])
        · cases hav
      | false =>
        simp only [Bool.false_eq_true, if_false] at hav
        split at hav
        · rename_i y hy
          cases hav
          obtain ⟨v, h4, h5⟩ := I.rel.read hb hy
          exact ⟨v, fun w' hw' => by replace hw' := hw' (by rw [ho]; rfl); simp [execOp, ho, Instr.loadAt, h3, Instr.sureAddr, loadVar, hr1, hw' _ _ h4], h5⟩
        · cases hav
    · cases hav
  · cases hav

theorem run_places {P : Program} : ∀ (fs : List Field), (fs.all fun (f : Field) => (szOf P f.type).isSome) = true →
    ∃ pl : List (Nat × Nat), (∀ w, (fs.mapM (fun (f : Field) => do pure (f.offset, ← sizeOf f.type)) : Sem (List (Nat × Nat))).run P w = .ok pl w) ∧ ∀ (i : Nat) (f : Field) (sz : Nat), fs[i]? = some f → szOf P f.type = some sz → pl[i]? = some (f.offset, sz)
  | [], _ => ⟨[], fun _ => rfl, by simp⟩
  | f :: fs, h => by
    simp only [List.all_cons, Bool.and_eq_true] at h
    obtain ⟨pl, h1, h2⟩ := run_places fs h.2
    obtain ⟨sz, hsz⟩ := Option.isSome_iff_exists.1 h.1
    refine ⟨(f.offset, sz) :: pl, ?_, fun i g z hg hz => ?_⟩
    · intro w
      rw [List.mapM_cons]
      simp only [Sem.run_bind, run_szOf hsz, Result.andThen, Sem.run_pure, h1]
    · cases i with
      | zero => simp at hg; subst hg; rw [hsz] at hz; cases hz; rfl
      | succ i => simpa using h2 i g z (by simpa using hg) hz

theorem val_build (I : InvX B N X st a w) {o : Oper} {t : TypeId} {ps : Array (Nat × Operand)} (ho : o.op = .build t ps) (hok : fldsOk P t = true) {zs : List Value} (hzs : zsOf P t = some zs) {l : List (Nat × Nat × Operand)} (hl : partsOf P t ps.toList = some l)
    {av : AV} (hav : aval st (.build 0 zs l) = some av) : Val P X st.s o a w av := by
  obtain ⟨fs, hu, hfs⟩ : ∃ fs, P.underlying t = some (.struct fs) ∧ (fs.toList.all fun (f : Field) => (szOf P f.type).isSome) = true := by
    unfold fldsOk at hok
    cases hu : P.underlying t with
    | none => simp [hu] at hok
    | some d => rw [hu] at hok; cases d <;> simp at hok; exact ⟨_, rfl, by simpa using hok⟩
  simp only [aval] at hav
  obtain ⟨cs', h1, rfl⟩ := Option.map_eq_some_iff.1 hav
  unfold zsOf at hzs
  cases hi : P.info? t with
  | none => simp [hi] at hzs
  | some inf =>
    simp only [hi] at hzs
    cases hz : inf.zero with
    | none => simp [hz] at hzs
    | some z =>
      simp only [hz] at hzs
      split at hzs
      · rename_i hall
        cases hzs
        have hz2 : all2 (VC X st.s) (z.cells.toList.map .sc) z.cells.toList := by
          have : ∀ u ∈ z.cells.toList, u.oneCell' = true := fun u hu => List.all_eq_true.1 hall u hu
          revert this
          generalize z.cells.toList = l
          intro this
          induction l with
          | nil => trivial
          | cons u l ih => exact ⟨⟨rfl, this u (by simp)⟩, ih fun u hu => this u (by simp [hu])⟩
        obtain ⟨pl, h2, h3⟩ := run_places (P := P) fs.toList hfs
        have h3' : ∀ i off sz ty, fldOf P t i = some (off, ty) → szOf P ty = some sz → pl.toArray[i]? = some (off, sz) := fun i off sz ty hf hs => by
          obtain ⟨fs', fd, hu', hfd, rfl, rfl⟩ := fldOf_some hf
          rw [hu] at hu'; cases hu'
          simpa using h3 i fd sz (by simpa using hfd) hs
        obtain ⟨us, h4, h5⟩ := build_fill hu I ps.toList l _ cs' z.cells hl h1 hz2 (pl.toArray[·]?) h3'
        refine ⟨.agg us, ?_, us.toList, by simp, h5⟩
        intro w' _
        have h6 : (ps.map fun (i, x) => (i, a.eval x)).toList = ps.toList.map fun p => (p.1, a.eval p.2) := by simp
        have h7 : (fs.mapM (fun (f : Field) => do pure (f.offset, ← sizeOf f.type)) : Sem (Array (Nat × Nat))).run P w' = .ok pl.toArray w' := by
          rw [Array.mapM_eq_mapM_toList]
          simp only [Sem.run_map]
          rw [h2]; rfl
        simp only [execOp, ho, Instr.build, zeroValue, typeInfo, Sem.run_bind, run_program, Result.andThen, hi, Sem.run_pure, hz, run_underlying hu, h7, h6, h4]
      · cases hzs
end
end Go.AK


/- The values together; a cell is stored. Conditions: none. -/
set_option linter.unusedSimpArgs false
set_option linter.unusedVariables false
namespace Go.AK
open Go

section
variable {P : Program} {B : Base} {N : Nat} {X : EM} {st : St} {a : Act} {w : World}

theorem mm2_fold (I : InvX B N X st a w) (w' : World) (mx : Bool) : ∀ (xs : List Operand) (k : IntKind) (n : Int) (v : Value),
    (xs.map fun x => scv (evo st.t x)).foldl (mm2 mx) (some (.int k n)) = some v →
    ((xs.map a.eval).foldlM (if mx then Builtin.max2 else Builtin.min2) (.int k n) : Sem Value).run P w' = .ok v w' ∧ v.oneCell' = true
  | [], k, n, v, h => by simp only [List.map_nil, List.foldl_nil, Option.some.injEq] at h; subst h; exact ⟨rfl, rfl⟩
  | x :: xs, k, n, v, h => by
    simp only [List.map_cons, List.foldl_cons] at h
    cases hx : evo st.t x with
    | c y =>
      cases y with
      | sc u =>
        have hu := I.sc hx
        cases u with
        | int k' b =>
          rw [hx] at h
          simp only [scv, mm2] at h
          have ih := mm2_fold I w' mx xs k _ v h
          simp only [List.map_cons, List.foldlM_cons, Sem.run_bind, hu]
          cases mx
          · simp only [Bool.false_eq_true, if_false, Builtin.min2, Sem.run_pure, Result.andThen] at ih ⊢; exact ih
          · simp only [if_true, Builtin.max2, Sem.run_pure, Result.andThen] at ih ⊢; exact ih
        | _ => rw [hx] at h; simp only [scv, mm2] at h; exact absurd h (by
            have : ∀ l : List (Option Value), l.foldl (mm2 mx) none = none := fun l => by
              induction l with
              | nil => rfl
              | cons y l ih => simp only [List.foldl_cons]; unfold mm2; exact ih
            rw [this]; simp)
      | _ => rw [hx] at h; simp only [scv, mm2] at h; exact absurd h (by
          have : ∀ l : List (Option Value), l.foldl (mm2 mx) none = none := fun l => by
            induction l with
            | nil => rfl
            | cons y l ih => simp only [List.foldl_cons]; unfold mm2; exact ih
          rw [this]; simp)
    | _ => rw [hx] at h; simp only [scv, mm2] at h; exact absurd h (by
        have : ∀ l : List (Option Value), l.foldl (mm2 mx) none = none := fun l => by
          induction l with
          | nil => rfl
          | cons y l ih => simp only [List.foldl_cons]; unfold mm2; exact ih
        rw [this]; simp)

theorem val_mm (I : InvX B N X st a w) {o : Oper} {ar : Array Operand} {at_ : Array TypeId} (mx : Bool) (ho : o.op = .call { callee := .builtin (if mx then .max else .min), args := ar, argTypes := at_ })
    {av : AV} (hav : aval st (.mm 0 mx ar.toList) = some av) : Val P X st.s o a w av := by
  simp only [aval] at hav
  obtain ⟨v, h1, rfl⟩ := Option.map_eq_some_iff.1 hav
  obtain ⟨ar, rfl⟩ : ∃ l, ar = List.toArray l := ⟨ar.toList, by simp⟩
  simp only at h1
  cases ar with
  | nil => simp [mmF] at h1
  | cons x xs =>
    simp only [List.map_cons] at h1
    cases hx : scv (evo st.t x) with
    | none => rw [hx] at h1; simp [mmF] at h1
    | some u =>
      rw [hx] at h1
      cases u with
      | int k n =>
        simp only [mmF] at h1
        have hm := fun w' => mm2_fold (P := P) I w' mx xs k n v h1
        have h2 := fun w' => (hm w').1
        have h3 := (hm w).2
        have hx' : evo st.t x = .c (.sc (.int k n)) := by
          unfold scv at hx; split at hx
          · rename_i u hu; cases hx; exact hu
          · cases hx
        have hu := I.sc hx'
        refine ⟨v, ?_, rfl, h3⟩
        cases mx
        · simp only [Bool.false_eq_true, if_false] at h2 ho
          intro w' _; simp [execOp, ho, resolve, invoke, builtin, Builtin.min_, hu, h2]
        · simp only [if_true] at h2 ho
          intro w' _; simp [execOp, ho, resolve, invoke, builtin, Builtin.max_, hu, h2]
      | _ => simp [mmF] at h1

/-- The operations whose value is told by 'aval'. -/
theorem aval_sound (I : InvX B N X st a w) {o : Oper} {d : Tmp} {ao : AO} {cons : Bool} (hf : form P cons d o.op = some ao) {av : AV} (hav : aval st ao = some av) : Val P X st.s o a w av := by
  unfold form at hf
  split at hf
  · rename_i x ho; cases hf; cases hav; exact val_mv I (.inl ho)
  · rename_i x ho; cases hf; cases hav; exact val_mv I (.inr ho)
  · rename_i c x y ho; cases hf
    simp only [aval] at hav
    split at hav
    · rename_i t hc; cases hav; exact val_pick I ho hc
    · cases hav
  · rename_i e ho; obtain ⟨zs, _, rfl⟩ := Option.map_eq_some_iff.1 hf; cases hav
  · cases hf; cases hav
  · rename_i t ps ho
    split at hf
    · rename_i zs l hzs hl
      split at hf
      · rename_i hok; cases hf; exact val_build I ho hok hzs hl hav
      · cases hf
    · cases hf
  · rename_i t len ps ho
    split at hf
    · split at hf
      · split at hf
        · cases hf; cases hav
        · cases hf
      · cases hf
    · cases hf
  · rename_i t x ho
    split at hf
    · rename_i ag sz hag hz; cases hf; exact val_load I ho hag hz hav
    · cases hf
  · rename_i x ho; cases hf
    simp only [aval] at hav
    split at hav
    · rename_i k p c hx; cases hav; exact val_nilc I ho hx
    · cases hav
  · rename_i s x f ho
    split at hf
    · rename_i off t hfl
      split at hf
      · rename_i sz hz
        split at hf
        · cases hf
        · rename_i hz0; cases hf
          simp only [aval] at hav
          split at hav
          · rename_i k p c hx
            split at hav
            · rename_i e cs hb
              split at hav
              · rename_i hl; cases hav; exact val_faddr I ho hfl hz hz0 hx hb hl
              · cases hav
            · cases hav
          · cases hav
      · cases hf
    · cases hf
  · rename_i t x i ho
    split at hf
    · rename_i e he
      obtain ⟨sz, hz, rfl⟩ := Option.map_eq_some_iff.1 hf
      simp only [aval] at hav
      split at hav
      · rename_i k p off n ik j hx hi
        split at hav
        · rename_i e' cs hb
          split at hav
          · rename_i hc; obtain ⟨rfl, h0, h1⟩ := hc; cases hav; exact val_iaddr I ho he hz hx hi hb h0 h1
          · cases hav
        · cases hav
      · cases hav
    · cases hf
  · split at hf
    · split at hf
      · split at hf
        · cases hf; cases hav
        · cases hf
      · cases hf
    · cases hf
  · rename_i t x lo hi ho
    split at hf
    · rename_i e he; obtain ⟨sz, hz, rfl⟩ := Option.map_eq_some_iff.1 hf; exact val_slice I ho he hz hav
    · split at hf
      · rename_i ht; cases hf; exact val_sslice I ho ht hav
      · cases hf
  · rename_i x i ho; cases hf; exact val_extr I ho hav
  · rename_i s x f ho
    split at hf
    · rename_i off t hfl
      split at hf
      · rename_i ag sz hag hz; cases hf; exact val_fld I ho hfl hag hz hav
      · cases hf
    · cases hf
  · rename_i t x i ho
    split at hf
    · rename_i ht; cases hf; exact val_sidx I ho ht hav
    · cases hf
  · rename_i op t x y u ho
    split at hf
    · rename_i hb
      split at hf
      · cases hf; exact val_beq I (neg := false) hb ho hav
      · cases hf; exact val_beq I (neg := true) hb ho hav
      · cases hf
    · split at hf
      · rename_i ks hk
        split at hf
        · cases hf; exact val_aeq I (neg := false) hk ho hav
        · cases hf; exact val_aeq I (neg := true) hk ho hav
        · cases hf
      · cases hf; exact val_bin I ho hav
  · rename_i op t x ho; cases hf; exact val_un I ho hav
  · rename_i t x ho
    split at hf
    · rename_i ht; cases hf; exact val_mki I ho ht hav
    · cases hf
  · rename_i f first xs ho
    split at hf
    · rename_i hc; cases hf; exact val_clo I ho hc hav
    · cases hf
  · rename_i s t x ho
    split at hf
    · rename_i k1 k2 h1 h2; cases hf; exact val_conv I ho h1 h2 hav
    · cases hf
  · rename_i ar at_ ho
    split at hf
    · rename_i x t h1 h2
      split at hf
      · rename_i ht; cases hf; exact val_len I ho h1 h2 ht hav
      · split at hf
        · rename_i ht; cases hf; exact val_slen I ho h1 h2 ht hav
        · cases hf
    · cases hf
  · rename_i ar at_ ho; cases hf; exact val_mm I false ho hav
  · rename_i ar at_ ho; cases hf; exact val_mm I true ho hav
  · split at hf
    · split at hf
      · split at hf
        · split at hf
          · cases hf; cases hav
          · cases hf
        · cases hf
      · cases hf
    · cases hf
  · cases hf
end
end Go.AK


/- Steps, one behind the other; a cell is stored. Conditions: none. -/
set_option linter.unusedSimpArgs false
set_option linter.unusedVariables false
namespace Go.AK
open Go

structure Stp (X : EM) (s : Sto) (w : World) (X' : EM) (s' : Sto) (w' : World) (f : Cell → Cell) (ma mb : List Nat) : Prop where
  rel : HRel X' s' w'
  vc : ∀ x v, VC X s x v → VC X' s' (f x) v
  fr : Fr X s w w'
  foot : Foot X s w X' s'
  k1 : ∀ j, j ∉ ma → j ∉ mb → ∀ q, Tr X s (.arg j) q X' s' (.arg j) q
  k2 : ∀ j, j ∉ mb → Tr X s (.arg j) [] X' s' (.arg j) []

theorem Stp.refl {X : EM} {s : Sto} {w : World} (H : HRel X s w) : Stp X s w X s w id [] [] := ⟨H, fun _ _ h => h, Fr.refl _ _ _, Foot.refl _ _ _, fun _ _ _ _ => Tr.refl _ _ _ _, fun _ _ => Tr.refl _ _ _ _⟩
theorem Stp.trans {X X' X'' : EM} {s s' s'' : Sto} {w w' w'' : World} {f f' : Cell → Cell} {ma mb ma' mb' : List Nat} (h : Stp X s w X' s' w' f ma mb) (h' : Stp X' s' w' X'' s'' w'' f' ma' mb') :
    Stp X s w X'' s'' w'' (f' ∘ f) (ma ++ ma') (mb ++ mb') where
  rel := h'.rel
  vc := fun x v hv => h'.vc _ v (h.vc x v hv)
  fr := h.fr.trans h.foot h'.fr
  foot := h.foot.trans h.fr.size h'.foot
  k1 := fun j a b q => by
    simp only [List.mem_append, not_or] at a b
    exact (h.k1 j a.1 b.1 q).trans (h'.k1 j a.2 b.2 q)
  k2 := fun j b => by
    simp only [List.mem_append, not_or] at b
    exact (h.k2 j b.1).trans (h'.k2 j b.2)

def mapA (f : Cell → Cell) : AV → AV
  | .c x => .c (f x)
  | .g xs => .g (xs.map f)
  | .tup l => .tup (l.map fun p => (p.1, p.2.map f))
def Tm.mapT (t : Tm) (f : Cell → Cell) : Tm := t.map fun p => (p.1, mapA f p.2)
theorem Tm.get_mapT (t : Tm) (f : Cell → Cell) (i : Nat) (hd : f .dead = .dead) : (t.mapT f).get i = mapA f (t.get i) := by
  induction t with
  | nil => show AV.c .dead = .c (f .dead); rw [hd]
  | cons p t ih =>
    obtain ⟨q, u⟩ := p
    show (if q = i then mapA f u else Tm.get (Tm.mapT t f) i) = _
    rw [ih]
    by_cases h : q = i <;> simp [h]
theorem VA_map {X X' : EM} {s s' : Sto} {f : Cell → Cell} {x : AV} {v : Value} (h : ∀ x v, VC X s x v → VC X' s' (f x) v) (hv : VA X s x v) : VA X' s' (mapA f x) v := by
  cases x with
  | c x => exact h x v hv
  | g xs => obtain ⟨vs, rfl, hf⟩ := hv; exact ⟨vs, rfl, all2.imp _ (fun x v _ h1 => h x v h1) hf⟩
  | tup l =>
    obtain ⟨us, rfl, hf⟩ := hv
    refine ⟨us, rfl, all2.imp _ (fun a b _ h1 => ?_) hf⟩
    obtain ⟨b1, xs⟩ := a
    cases b1 with
    | true => obtain ⟨vs, rfl, hg⟩ := h1; exact ⟨vs, rfl, all2.imp _ (fun x v _ h1 => h x v h1) hg⟩
    | false => obtain ⟨x, rfl, hx⟩ := h1; exact ⟨f x, rfl, h x _ hx⟩

theorem InvX.step {B : Base} {N : Nat} {X X' : EM} {st : St} {a : Act} {w w' : World} {s' : Sto} {f : Cell → Cell} {ma mb : List Nat} (I : InvX B N X st a w) (S : Stp X st.s w X' s' w' f ma mb) (hd : f .dead = .dead)
    {ma' mb' : List Nat} (ha : ∀ j, j ∈ st.ma ∨ j ∈ ma → j ∈ ma') (hb : ∀ j, j ∈ st.mb ∨ j ∈ mb → j ∈ mb') : InvX B N X' ⟨st.t.mapT f, s', ma', mb'⟩ a w' where
  rel := S.rel
  tmps := fun i => by rw [Tm.get_mapT _ _ _ hd]; exact VA_map S.vc (I.tmps i)
  size := I.size
  defers := I.defers
  fr := I.fr.trans I.foot S.fr
  foot := I.foot.trans I.fr.size S.foot
  keep := I.keep.step (fun j h => ha j (.inl h)) (fun j h => hb j (.inl h)) (fun j h1 h2 q => S.k1 j (fun h => h1 (ha j (.inr h))) (fun h => h2 (hb j (.inr h))) q) (fun j h2 => S.k2 j (fun h => h2 (hb j (.inr h))))
  gb := I.gb

theorem Tr_kill {X : EM} {s : Sto} {w : World} (H : HRel X s w) (k : Key) (d : Nat) (k' : Key) (p : List Nat) : Tr X s k' p X (s.kill k d) k' p := fun e cs hb =>
  ⟨cs.map (killC k d), by rw [H.blkS_kill, hb]; rfl, by simp, rfl⟩

/-- Every owned cell of now was one of before, if each place of now lies where one of before lay. -/
theorem Foot.of {X X' : EM} {s s' : Sto} (w : World) (h : ∀ k q e cs, s'.blkS k q = some (e, cs) → s'.owned k → ∃ k0 q0, (s.blkS k0 q0).isSome ∧ X' k q = X k0 q0 ∧ s.owned k0) : Foot X s w X' s' := by
  rintro a ⟨k, q, j, ho, hb, hj, rfl⟩
  obtain ⟨⟨e, cs⟩, hb⟩ := Option.isSome_iff_exists.1 hb
  obtain ⟨k0, q0, h1, h2, h3⟩ := h k q e cs hb ho
  rw [h2] at hj ⊢
  exact .inl ⟨k0, q0, j, h3, h1, hj, rfl⟩

theorem Stp.kill {X : EM} {s : Sto} {w : World} (H : HRel X s w) (k : Key) (d : Nat) : Stp X s w X (s.kill k d) w (killC k d) [] [] where
  rel := H.kill k d
  vc := fun x v hv => VC_kill (fun k' p _ => Tr_kill H k d k' p) hv
  fr := Fr.refl _ _ _
  foot := Foot.of w fun k' q e cs hb ho => by
    rw [H.blkS_kill] at hb
    obtain ⟨b, h1, _⟩ := Option.map_eq_some_iff.1 hb
    exact ⟨k', q, by rw [h1]; rfl, rfl, Sto.owned_kill.1 ho⟩
  k1 := fun j _ _ q => Tr_kill H k d _ q
  k2 := fun j _ => Tr_kill H k d _ []

theorem Sto.owned_del {s : Sto} {K k : Key} : (s.del K).owned k ↔ K ≠ k ∧ s.owned k := by
  simp only [Sto.owned, Sto.get_del]
  by_cases h : K = k <;> simp [h]

/-- A root is dropped. -/
theorem Stp.drop {X : EM} {s : Sto} {w : World} (H : HRel X s w) {K : Key} (hK : ∀ j, K ≠ .arg j) : Stp X s w X ((s.kill K 0).del K) w (killC K 0) [] [] where
  rel := (H.kill K 0).del (H.noN_kill K 0)
  vc := fun x v hv => VC_kill (fun k' p h => (Tr_kill H K 0 k' p).trans (Tr.eq (by rw [Sto.blkS_del, if_neg (fun e => h ⟨e.symm, Nat.zero_le _⟩)]))) hv
  fr := Fr.refl _ _ _
  foot := Foot.of w fun k' q e cs hb ho => by
    rw [Sto.blkS_del] at hb
    obtain ⟨h1, h2⟩ := Sto.owned_del.1 ho
    rw [if_neg h1, H.blkS_kill] at hb
    obtain ⟨b, h3, _⟩ := Option.map_eq_some_iff.1 hb
    exact ⟨k', q, by rw [h3]; rfl, rfl, Sto.owned_kill.1 h2⟩
  k1 := fun j _ _ q => (Tr_kill H K 0 _ q).trans (Tr.eq (by rw [Sto.blkS_del, if_neg (hK j)]))
  k2 := fun j _ => (Tr_kill H K 0 _ []).trans (Tr.eq (by rw [Sto.blkS_del, if_neg (hK j)]))

theorem Stp.congr {X : EM} {s s' : Sto} {w : World} (H : HRel X s w) (h : ∀ k, s'.get k = s.get k) : Stp X s w X s' w id [] [] where
  rel := H.congr h
  vc := fun x v hv => VC_tr (fun k p _ => Tr_congr h k p) hv
  fr := Fr.refl _ _ _
  foot := Foot.of w fun k' q e cs hb ho => ⟨k', q, by rw [← blkS_congr h, hb]; rfl, rfl, by simpa only [Sto.owned, h] using ho⟩
  k1 := fun j _ _ q => Tr_congr h _ q
  k2 := fun j _ => Tr_congr h _ []

def Key.argL : Key → List Nat
  | .arg j => [j]
  | _ => []

/-- A leaf is laid into a cell (the world may be written there). -/
theorem Stp.leaf {X : EM} {s : Sto} {w w' : World} (H : HRel X s w) {k : Key} {p : List Nat} {i : Nat} {y : Cell} {e : Nat} {cs : List Cell} (hb : s.blk k p = some (e, cs)) (hi : i < cs.length)
    (hy : sub (some y) = none) (hf : s.fits k p y) (hs : sub cs[i]? = none) {v : Value}
    (hw : ∀ a, a ≠ (X k p).at i → w'.cell? a = w.cell? a) (hfz : ∀ a, w'.frozen? a = w.frozen? a) (hv : w'.cell? ((X k p).at i) = some v) (hvc : VC X s y v) (hown : w' = w ∨ s.owned k) (hfr : Fr X s w w') :
    Stp X s w X (s.put k p i y) w' id [] [] where
  rel := H.put0 hb hi hy hf (.inl hs) hw hfz ⟨v, hv, VC_tr (fun k' q _ => Tr_put hb hi k' q fun t => .inr hs) hvc⟩ hown
  vc := fun x v hv => VC_tr (fun k' q _ => Tr_put hb hi k' q fun t => .inr hs) hv
  fr := hfr
  foot := Foot.of w fun k' q e' cs' h ho => by
    have hput := Sto.blkS_put s k p i y hb hi k' q
    rw [hput] at h
    refine ⟨k', q, ?_, rfl, (Sto.owned_put s k p i y k').1 ho⟩
    by_cases hk : k = k'
    · subst hk
      simp only [if_true] at h
      cases hs' : strip p q with
      | none => rw [hs'] at h; simp only at h; rw [h]; rfl
      | some r =>
        rw [hs'] at h
        cases r with
        | nil => have : q = p := by simpa using strip_some hs'
                 rw [this, Sto.blkS_of_blk hb]; rfl
        | cons j t =>
          by_cases hj : i = j
          · subst hj; simp [hy] at h
          · simp only [hj, if_false] at h; rw [h]; rfl
    · simp only [hk, if_false] at h; rw [h]; rfl
  k1 := fun j _ _ q => Tr_put hb hi _ q fun t => .inr hs
  k2 := fun j _ => Tr_put hb hi _ [] fun t => .inr hs

/-- What a cell owned is let go: nothing is told of the cell any more. -/
theorem Stp.letgo {X : EM} {s : Sto} {w : World} (H : HRel X s w) {k : Key} {p : List Nat} {i : Nat} {e : Nat} {cs : List Cell} (hb : s.blk k p = some (e, cs)) (hi : i < cs.length) :
    Stp X s w X ((s.kill k (p.length + 1)).put k p i .dead) w (killC k (p.length + 1)) k.argL [] := by
  have H1 := H.kill k (p.length + 1)
  obtain ⟨cs1, hb1, hl⟩ : ∃ cs1, (s.kill k (p.length + 1)).blk k p = some (e, cs1) ∧ cs1.length = cs.length := by
    have := H.blkS_kill k (p.length + 1) k p
    rw [Sto.blkS_of_blk hb] at this
    simp only [Sto.blkS, Option.map_some] at this
    obtain ⟨b, h1, h2⟩ := Option.map_eq_some_iff.1 this
    simp only [shB, Prod.mk.injEq] at h2
    exact ⟨b.2, by rw [h1, ← h2.1], by have := congrArg List.length h2.2; simpa using this⟩
  have hi1 : i < cs1.length := by omega
  have hn := H.noN_kill k (p.length + 1)
  have tr : ∀ k' q, ¬ (k' = k ∧ p.length + 1 ≤ q.length) → Tr X s k' q X ((s.kill k (p.length + 1)).put k p i .dead) k' q := fun k' q h =>
    (Tr_kill H k _ k' q).trans (Tr_put hb1 hi1 k' q fun t => .inl fun hh => h ⟨hh.1.symm, by have := congrArg List.length (strip_some hh.2); simp at this; omega⟩)
  exact {
    rel := H1.put0 hb1 hi1 rfl (.inl rfl) (.inr hn) (fun a _ => rfl) (fun a => rfl) (by
      obtain ⟨v, hv, _⟩ := H1.cell k p _ _ (Sto.blkS_of_blk hb1) i (sh cs1[i]) (by rw [List.getElem?_map, List.getElem?_eq_getElem hi1]; rfl)
      exact ⟨v, hv, trivial⟩) (.inl rfl)
    vc := fun x v hv => VC_kill tr hv
    fr := Fr.refl _ _ _
    foot := Foot.of w fun k' q e' cs' h ho => by
      have hput := Sto.blkS_put (s.kill k (p.length + 1)) k p i .dead hb1 hi1 k' q
      rw [hput] at h
      refine ⟨k', q, ?_, rfl, Sto.owned_kill.1 ((Sto.owned_put _ k p i _ k').1 ho)⟩
      have hk' : ∀ b, (s.kill k (p.length + 1)).blkS k' q = some b → (s.blkS k' q).isSome := fun b hbb => by
        rw [H.blkS_kill] at hbb
        obtain ⟨b0, h1, _⟩ := Option.map_eq_some_iff.1 hbb
        rw [h1]; rfl
      by_cases hk : k = k'
      · subst hk
        simp only [if_true] at h
        cases hs' : strip p q with
        | none => rw [hs'] at h; exact hk' _ h
        | some r =>
          rw [hs'] at h
          cases r with
          | nil => have : q = p := by simpa using strip_some hs'
                   rw [this, Sto.blkS_of_blk hb]; rfl
          | cons j t =>
            by_cases hj : i = j
            · subst hj; simp at h
            · simp only [hj, if_false] at h; exact hk' _ h
      · simp only [hk, if_false] at h; exact hk' _ h
    k1 := fun j h _ q => tr _ q fun hh => h (by rw [← hh.1]; simp [Key.argL])
    k2 := fun j _ => tr _ [] fun hh => by have := hh.2; simp at this }

/-- A root becomes what a dead cell owns. -/
theorem Stp.attach {X : EM} {s : Sto} {w : World} (H : HRel X s w) {K : Key} {r : Root} (hK : s.get K = some r) (hKa : ∀ j, K ≠ .arg j) (hkd : r.kd ≠ .fz) (hcl : ∀ y ∈ r.cs, cln y = true)
    {k : Key} (hne : K ≠ k) (hko : s.owned k) {p : List Nat} {i : Nat} {e : Nat} {cs : List Cell} (hb : s.blk k p = some (e, cs)) (hi : i < cs.length) (hold : sub cs[i]? = none)
    {x : Cell} (hx : sub (some x) = some (r.e, r.cs)) (hxc : cln x = true) {v : Value} (hv : w.cell? ((X k p).at i) = some v)
    (hxv : ∀ X' s', Tr X s K [] X' s' k (p ++ [i]) → HC X' s' k p i x v) :
    Stp X s w (X.graft K k p i) (((s.kill K 0).del K).put k p i x) w (killC K 0) [] [] := by
  have H1 := H.kill K 0
  have hr : killR K 0 r = r := by
    have := killR_cs (k := K) (d := 0) (r := r) (fun _ => hcl)
    rw [map_killC_cln hcl] at this
    have h2 := killR_kd K 0 r
    have h3 := killR_e K 0 r
    cases hh : killR K 0 r
    rw [hh] at this h2 h3
    cases r
    simp_all
  have hK1 : (s.kill K 0).get K = some r := by rw [Sto.get_kill, hK, Option.map_some, hr]
  obtain ⟨cs1, hb1, hl, hs1⟩ : ∃ cs1, (s.kill K 0).blk k p = some (e, cs1) ∧ cs1.length = cs.length ∧ sub cs1[i]? = none := by
    have h0 := H.blkS_kill K 0 k p
    rw [Sto.blkS_of_blk hb] at h0
    simp only [Sto.blkS, Option.map_some] at h0
    obtain ⟨b, h1, h2⟩ := Option.map_eq_some_iff.1 h0
    simp only [shB, Prod.mk.injEq] at h2
    refine ⟨b.2, by rw [h1, ← h2.1], by have := congrArg List.length h2.2; simpa using this, ?_⟩
    have h3 : (b.2.map sh)[i]? = ((cs.map sh).map (killC K 0))[i]? := by rw [h2.2]
    have h4 : ∀ z : Option Cell, (sub (z.map sh)).isSome = (sub z).isSome := fun z => by cases z with
      | none => rfl
      | some z => cases z <;> rfl
    have h5 := h4 b.2[i]?
    rw [← List.getElem?_map, h3, List.getElem?_map, sub_killC, List.getElem?_map, h4, hold] at h5
    cases hh : sub b.2[i]? with
    | none => rfl
    | some z => rw [hh] at h5; simp at h5
  obtain ⟨h1, h2⟩ := H1.attach hK1 hkd hcl (H.noN_kill K 0) hne hb1 (by omega) hs1 hx hxc hv (fun X' s' ht => hxv X' s' ((Tr_kill H K 0 K []).trans ht))
  have tr : ∀ k' q, K ≠ k' → Tr X s k' q (X.graft K k p i) (((s.kill K 0).del K).put k p i x) k' q := fun k' q h => (Tr_kill H K 0 k' q).trans (h2 k' q h)
  exact {
    rel := h1
    vc := fun y u hu => VC_kill (fun k' q h => tr k' q fun hh => h ⟨hh.symm, Nat.zero_le _⟩) hu
    fr := Fr.refl _ _ _
    foot := Foot.of w fun k' q e' cs' h ho => by
      have hb' : ((s.kill K 0).del K).blk k p = some (e, cs1) := by rw [blk_del hne]; exact hb1
      have hput := Sto.blkS_put ((s.kill K 0).del K) k p i x hb' (by omega) k' q
      rw [hput] at h
      have hk' : ∀ k'' q b, (s.kill K 0).blkS k'' q = some b → (s.blkS k'' q).isSome := fun k'' q b hbb => by
        rw [H.blkS_kill] at hbb
        obtain ⟨b0, h1, _⟩ := Option.map_eq_some_iff.1 hbb
        rw [h1]; rfl
      have hd : ∀ k'' q b, ((s.kill K 0).del K).blkS k'' q = some b → (s.blkS k'' q).isSome := fun k'' q b hbb => by
        rw [Sto.blkS_del] at hbb
        by_cases hh : K = k''
        · simp [hh] at hbb
        · rw [if_neg hh] at hbb; exact hk' _ _ _ hbb
      have hoo : s.owned k' := Sto.owned_kill.1 (Sto.owned_del.1 ((Sto.owned_put _ k p i x k').1 ho)).2
      rw [EM.graft_eq]
      by_cases hk : k = k'
      · subst hk
        simp only [if_true] at h
        cases hs' : strip p q with
        | none =>
          rw [hs'] at h
          refine ⟨k, q, hd _ _ _ h, ?_, hoo⟩
          unfold origin
          have : strip (p ++ [i]) q = none := by cases h2 : strip (p ++ [i]) q with
            | none => rfl
            | some t => rw [(strip_snoc p i q t).1 h2] at hs'; cases hs'
          simp only [if_true, this]
        | some u =>
          rw [hs'] at h
          cases u with
          | nil =>
            have hq : q = p := by simpa using strip_some hs'
            subst hq
            refine ⟨k, q, by rw [Sto.blkS_of_blk hb]; rfl, ?_, hoo⟩
            unfold origin
            have : strip (q ++ [i]) q = none := by cases h2 : strip (q ++ [i]) q with
              | none => rfl
              | some t => have := congrArg List.length (strip_some h2); simp at this
            simp only [if_true, this]
          | cons j t =>
            by_cases hj : i = j
            · subst hj
              simp only [if_true, hx, Option.bind_some] at h
              refine ⟨K, t, ?_, ?_, ⟨r, hK, hkd⟩⟩
              · have : s.blkS K t = walkS (r.e, r.cs) t := by simp only [Sto.blkS, Sto.blk, hK, Option.bind_some, Root.blk]; rfl
                rw [this, h]; rfl
              · unfold origin; simp only [if_true, (strip_snoc p i q t).2 hs']
            · simp only [hj, if_false] at h
              refine ⟨k, q, hd _ _ _ h, ?_, hoo⟩
              unfold origin
              have : strip (p ++ [i]) q = none := by cases h2 : strip (p ++ [i]) q with
                | none => rfl
                | some t' => rw [(strip_snoc p i q t').1 h2] at hs'; simp at hs'; exact absurd hs'.1 hj
              simp only [if_true, this]
      · simp only [hk, if_false] at h
        refine ⟨k', q, hd _ _ _ h, ?_, hoo⟩
        unfold origin; simp [hk]
    k1 := fun j _ _ q => tr _ q (hKa j)
    k2 := fun j _ => tr _ [] (hKa j) }
end Go.AK


/- Cells are stored, one behind the other. Conditions: none. -/
set_option linter.unusedSimpArgs false
set_option linter.unusedVariables false
namespace Go.AK
open Go

def addL (l : List Nat) : Key → List Nat
  | .arg j => if j ∈ l then l else j :: l
  | _ => l
theorem mem_addL {l : List Nat} {k : Key} {j : Nat} (h : j ∈ l ∨ j ∈ k.argL) : j ∈ addL l k := by
  cases k with
  | arg i =>
    simp only [Key.argL, List.mem_singleton] at h
    simp only [addL]
    by_cases hi : i ∈ l
    · rw [if_pos hi]; rcases h with h | h
      · exact h
      · exact h ▸ hi
    · rw [if_neg hi]; rcases h with h | h
      · exact List.mem_cons_of_mem _ h
      · rw [h]; exact List.mem_cons_self
  | res i => simpa [addL, Key.argL] using h
  | tmp a b => simpa [addL, Key.argL] using h

/-- What lies in the root that a value names becomes owned by the cell that the value is laid into. -/
def attachable (s : Sto) (k : Key) : Cell → Option (Key × Cell)
  | .ref (.tmp a b) [] off n => match s.get (.tmp a b) with
    | some r => if off = 0 ∧ r.kd = .lst ∧ n * r.e = r.cs.length ∧ Key.tmp a b ≠ k then some (.tmp a b, .own r.e n r.cs) else none
    | none => none
  | .ptr (.tmp a b) [] c => match s.get (.tmp a b) with
    | some r => if c = 0 ∧ r.kd = .box ∧ r.e = 0 ∧ r.cs.all cln = true ∧ Key.tmp a b ≠ k then some (.tmp a b, .obx r.cs) else none
    | none => none
  | _ => none
def isBox (s : Sto) (k : Key) : Bool := match s.get k with
  | some r => decide (r.kd = .box)
  | none => false
def leafOk (s : Sto) (k : Key) (p : List Nat) : Cell → Bool
  | .dead => false
  | .own .. => false
  | .obx .. => false
  | y => cln y || (p.isEmpty && isBox s k)

def St.letgo (st : St) (k : Key) (p : List Nat) (c : Nat) : St :=
  ⟨st.t.mapT (killC k (p.length + 1)), (st.s.kill k (p.length + 1)).put k p c .dead, addL st.ma k, st.mb⟩
/-- A value is laid into a cell that owns nothing. -/
def storeD (st : St) (k : Key) (p : List Nat) (c : Nat) (y : Cell) : Option (St × (Cell → Cell)) :=
  match attachable st.s k y with
  | some (K, x) => some (⟨st.t.mapT (killC K 0), (((st.s.put k p c .dead).kill K 0).del K).put k p c x, st.ma, st.mb⟩, killC K 0)
  | none => if leafOk st.s k p y = true then some (⟨st.t, st.s.put k p c y, st.ma, st.mb⟩, id) else none
def storeC (st : St) (k : Key) (p : List Nat) (c : Nat) (y : Cell) : Option (St × (Cell → Cell)) :=
  match st.s.blk k p with
  | some (_, cs) => if c < cs.length then (match sub cs[c]? with
      | some _ => (storeD (st.letgo k p c) k p c (killC k (p.length + 1) y)).map fun q => (q.1, q.2 ∘ killC k (p.length + 1))
      | none => storeD st k p c y) else none
  | none => none
def stores (st : St) (k : Key) (p : List Nat) (c : Nat) (g : Cell → Cell) : List Cell → Option St
  | [] => some st
  | y :: r => match storeC st k p c (g y) with
    | some (st', f) => stores st' k p (c + 1) (f ∘ g) r
    | none => none

theorem leafOk_spec {s : Sto} {k : Key} {p : List Nat} {y : Cell} (h : leafOk s k p y = true) : sub (some y) = none ∧ s.fits k p y ∧ y ≠ .dead := by
  have key : (cln y || (p.isEmpty && isBox s k)) = true → s.fits k p y := fun h => by
    simp only [Bool.or_eq_true, Bool.and_eq_true] at h
    rcases h with h | ⟨h1, h2⟩
    · exact .inl h
    · refine .inr ⟨by simpa using h1, ?_⟩
      unfold isBox at h2
      cases hg : s.get k with
      | none => simp [hg] at h2
      | some r => rw [hg] at h2; exact ⟨r, rfl, by simpa using h2⟩
  cases y <;> first | (simp [leafOk] at h; done) | exact ⟨rfl, key h, by simp⟩

theorem mapT_id (t : Tm) : t.mapT id = t := by
  induction t with
  | nil => rfl
  | cons p t ih =>
    obtain ⟨i, v⟩ := p
    have h1 : mapA id v = v := by
      cases v with
      | c x => rfl
      | g xs => simp [mapA]
      | tup l => simp [mapA]
    show (i, mapA id v) :: Tm.mapT t id = _
    rw [h1, ih]
theorem mapT_mapT (t : Tm) (f g : Cell → Cell) : (t.mapT f).mapT g = t.mapT (g ∘ f) := by
  induction t with
  | nil => rfl
  | cons p t ih =>
    obtain ⟨i, v⟩ := p
    have h1 : mapA g (mapA f v) = mapA (g ∘ f) v := by
      cases v with
      | c x => rfl
      | g xs => simp [mapA]
      | tup l => simp [mapA, Function.comp_def]
    show (i, mapA g (mapA f v)) :: Tm.mapT (Tm.mapT t f) g = (i, mapA (g ∘ f) v) :: Tm.mapT t (g ∘ f)
    rw [h1, ih]

theorem blk_put_same {s : Sto} {k : Key} {p : List Nat} {i : Nat} {y : Cell} {e : Nat} {cs : List Cell} (hb : s.blk k p = some (e, cs)) (hi : i < cs.length) : ∃ cs', (s.put k p i y).blk k p = some (e, cs') ∧ cs'.length = cs.length ∧ cs'.map sh = (cs.map sh).set i (sh y) := by
  have h := Sto.blkS_put s k p i y hb hi k p
  have hp := strip_append p []
  simp only [List.append_nil] at hp
  simp only [if_true, hp] at h
  simp only [Sto.blkS] at h
  obtain ⟨b, h1, h2⟩ := Option.map_eq_some_iff.1 h
  simp only [shB, Prod.mk.injEq] at h2
  refine ⟨b.2, by rw [h1, ← h2.1], ?_, h2.2⟩
  have := congrArg List.length h2.2
  simpa using this

theorem blk_of_Tr {X X' : EM} {s s' : Sto} {k : Key} {p : List Nat} (h : Tr X s k p X' s' k p) {e : Nat} {cs : List Cell} (hb : s.blk k p = some (e, cs)) : ∃ cs', s'.blk k p = some (e, cs') ∧ cs'.length = cs.length ∧ X' k p = X k p := by
  obtain ⟨cs', h1, h2, h3⟩ := h e _ (Sto.blkS_of_blk hb)
  simp only [Sto.blkS] at h1
  obtain ⟨b, h4, h5⟩ := Option.map_eq_some_iff.1 h1
  simp only [shB, Prod.mk.injEq] at h5
  refine ⟨b.2, by rw [h4, ← h5.1], ?_, h3⟩
  have := congrArg List.length h5.2
  simp at this h2
  omega

theorem sub_sh_isSome (z : Option Cell) : (sub (z.map sh)).isSome = (sub z).isSome := by
  cases z with
  | none => rfl
  | some z => cases z <;> rfl

section
variable {X : EM} {st : St} {w w' : World}

/-- What is told of a cell stored. -/
structure Stored (X : EM) (st : St) (w : World) (k : Key) (p : List Nat) (st' : St) (f : Cell → Cell) (w' : World) (X' : EM) : Prop where
  stp : ∃ ma, Stp X st.s w X' st'.s w' f ma [] ∧ (∀ j, j ∈ st.ma ∨ j ∈ ma → j ∈ st'.ma)
  mb : st'.mb = st.mb
  t : st'.t = st.t.mapT f
  tr : Tr X st.s k p X' st'.s k p
  own : st.s.owned k → st'.s.owned k
  fd : f .dead = .dead

theorem storeD_sound (H : HRel X st.s w) {k : Key} {p : List Nat} {c : Nat} {y : Cell} {st' : St} {f : Cell → Cell} (hs : storeD st k p c y = some (st', f)) {e : Nat} {cs : List Cell} (hb : st.s.blk k p = some (e, cs)) (hc : c < cs.length)
    (hn : sub cs[c]? = none) (ho : st.s.owned k) {v : Value} (hy : VC X st.s y v)
    (hw : ∀ a, a ≠ (X k p).at c → w'.cell? a = w.cell? a) (hfz : ∀ a, w'.frozen? a = w.frozen? a) (hv : w'.cell? ((X k p).at c) = some v) (hfr : Fr X st.s w w') :
    ∃ X', Stored X st w k p st' f w' X' := by
  unfold storeD at hs
  cases ha : attachable st.s k y with
  | none =>
    rw [ha] at hs
    simp only at hs
    by_cases hl : leafOk st.s k p y = true
    · rw [if_pos hl] at hs
      cases hs
      obtain ⟨h1, h2, _⟩ := leafOk_spec hl
      exact ⟨X, ⟨[], Stp.leaf H hb hc h1 h2 hn hw hfz hv hy (.inr ho) hfr, fun j h => by simpa using h⟩, rfl, (mapT_id _).symm, Tr_put hb hc k p fun t => .inr hn, (Sto.owned_put st.s k p c y k).2, rfl⟩
    · rw [if_neg hl] at hs; cases hs
  | some q =>
    obtain ⟨K, x⟩ := q
    rw [ha] at hs
    simp only [Option.some.injEq, Prod.mk.injEq] at hs
    obtain ⟨rfl, rfl⟩ := hs
    -- the cell is dead first
    have S1 := Stp.leaf H hb hc (y := .dead) rfl (.inl rfl) hn hw hfz hv (v := v) trivial (.inr ho) hfr
    obtain ⟨cs1, hb1, hl1, hm1⟩ := blk_put_same (y := .dead) hb hc
    have hn1 : sub cs1[c]? = none := by
      have := sub_sh_isSome cs1[c]?
      rw [← List.getElem?_map, hm1, List.getElem?_set_self (by simpa using hc)] at this
      cases hh : sub cs1[c]? with
      | none => rfl
      | some z => rw [hh] at this; cases this
    have hgk : ∀ K', K' ≠ k → (st.s.put k p c .dead).get K' = st.s.get K' := fun K' h => by
      unfold Sto.put; rw [hb]; simp only [Sto.get_setBlk]; rw [if_neg (fun e => h e.symm)]
    -- the root that is handed over
    have key : ∃ r, st.s.get K = some r ∧ r.kd ≠ .fz ∧ (∀ z ∈ r.cs, cln z = true) ∧ K ≠ k ∧ (∀ j, K ≠ .arg j) ∧ sub (some x) = some (r.e, r.cs) ∧ cln x = true ∧
        (∀ X' s', Tr X st.s K [] X' s' k (p ++ [c]) → HC X' s' k p c x v) := by
      cases y with
      | ref k0 p0 off n =>
        cases k0 with
        | tmp a b =>
          cases p0 with
          | nil =>
            simp only [attachable] at ha
            cases hg : st.s.get (.tmp a b) with
            | none => simp [hg] at ha
            | some r =>
              simp only [hg] at ha
              by_cases hcd : off = 0 ∧ r.kd = .lst ∧ n * r.e = r.cs.length ∧ Key.tmp a b ≠ k
              · rw [if_pos hcd] at ha
                cases ha
                obtain ⟨rfl, h2, h3, h4⟩ := hcd
                refine ⟨r, hg, by rw [h2]; simp, H.clean _ r hg (by rw [h2]; simp), h4, by simp, rfl, rfl, fun X' s' ht => ⟨VC1_ref ht hy, ?_⟩⟩
                have hbr : st.s.blkS (.tmp a b) [] = some (r.e, r.cs.map sh) := by simp only [Sto.blkS, Sto.blk, hg, Option.bind_some, Root.blk, walk]; rfl
                obtain ⟨cs', h5, h6, _⟩ := ht _ _ hbr
                exact ⟨cs', h5, by rw [h6, h3]; simp⟩
              · rw [if_neg hcd] at ha; cases ha
          | cons _ _ => simp [attachable] at ha
        | _ => simp [attachable] at ha
      | ptr k0 p0 off =>
        cases k0 with
        | tmp a b =>
          cases p0 with
          | nil =>
            simp only [attachable] at ha
            cases hg : st.s.get (.tmp a b) with
            | none => simp [hg] at ha
            | some r =>
              simp only [hg] at ha
              by_cases hcd : off = 0 ∧ r.kd = .box ∧ r.e = 0 ∧ r.cs.all cln = true ∧ Key.tmp a b ≠ k
              · rw [if_pos hcd] at ha
                cases ha
                obtain ⟨rfl, h2, h3, h4, h5⟩ := hcd
                refine ⟨r, hg, by rw [h2]; simp, fun z hz => List.all_eq_true.1 h4 z hz, h5, by simp, by rw [sub_obx, h3], rfl, fun X' s' ht => VC1_ptr ht hy⟩
              · rw [if_neg hcd] at ha; cases ha
          | cons _ _ => simp [attachable] at ha
        | _ => simp [attachable] at ha
      | _ => simp [attachable] at ha
    obtain ⟨r, hg, hkd, hcl, hne, hKa, hx, hxc, hxv⟩ := key
    have hK1 : (st.s.put k p c .dead).get K = some r := by rw [hgk K hne]; exact hg
    have trK : Tr X st.s K [] X (st.s.put k p c .dead) K [] := Tr_put hb hc K [] fun t => .inr hn
    have S2 := Stp.attach S1.rel hK1 hKa hkd hcl hne ((Sto.owned_put _ k p c _ k).2 ho) hb1 (by omega) hn1 hx hxc hv (fun X' s' ht => hxv X' s' (trK.trans ht))
    refine ⟨X.graft K k p c, ⟨[], by simpa using S1.trans S2, fun j h => by simpa using h⟩, rfl, rfl, ?_, fun h => ?_, rfl⟩
    · have t1 : Tr X st.s k p X (st.s.put k p c .dead) k p := Tr_put hb hc k p fun t => .inr hn
      have t2 : Tr X (st.s.put k p c .dead) k p X ((st.s.put k p c .dead).kill K 0) k p := Tr_kill S1.rel K 0 k p
      obtain ⟨cs2, hb2, hl2, _⟩ := blk_of_Tr t2 hb1
      have hb3 : (((st.s.put k p c .dead).kill K 0).del K).blk k p = some (e, cs2) := by rw [blk_del hne]; exact hb2
      refine (t1.trans t2).trans fun e' cs' h' => ?_
      obtain ⟨cs4, hb4, hl4, _⟩ := blk_put_same (y := x) hb3 (i := c) (by omega)
      have e1 := blk_of_blkS h' hb2
      refine ⟨_, Sto.blkS_of_blk (e1.1 ▸ hb4), by simp; omega, ?_⟩
      unfold EM.graft
      have : strip (p ++ [c]) p = none := by cases h2 : strip (p ++ [c]) p with
        | none => rfl
        | some t => have := congrArg List.length (strip_some h2); simp at this
      simp [this]
    · exact (Sto.owned_put _ k p c x k).2 (Sto.owned_del.2 ⟨hne, Sto.owned_kill.2 ((Sto.owned_put _ k p c _ k).2 h)⟩)

theorem storeC_sound (H : HRel X st.s w) {k : Key} {p : List Nat} {c : Nat} {y : Cell} {st' : St} {f : Cell → Cell} (hs : storeC st k p c y = some (st', f)) {e : Nat} {cs : List Cell} (hb : st.s.blk k p = some (e, cs)) (hc : c < cs.length)
    (ho : st.s.owned k) {v : Value} (hy : VC X st.s y v)
    (hw : ∀ a, a ≠ (X k p).at c → w'.cell? a = w.cell? a) (hfz : ∀ a, w'.frozen? a = w.frozen? a) (hv : w'.cell? ((X k p).at c) = some v) (hfr' : Fr X st.s w w') (hfr2 : Fr X (st.letgo k p c).s w w') :
    ∃ X', Stored X st w k p st' f w' X' := by
  unfold storeC at hs
  rw [hb] at hs
  simp only [hc, if_true] at hs
  cases hsub : sub cs[c]? with
  | none =>
    rw [hsub] at hs
    exact storeD_sound H hs hb hc hsub ho hy hw hfz hv hfr'
  | some q =>
    rw [hsub] at hs
    simp only at hs
    obtain ⟨⟨st1, f1⟩, h1, h2⟩ := Option.map_eq_some_iff.1 hs
    simp only [Prod.mk.injEq] at h2
    obtain ⟨rfl, rfl⟩ := h2
    have S1 := Stp.letgo H hb hc
    have t1 : Tr X st.s k p X (st.letgo k p c).s k p := by
      have t2 := Tr_kill H k (p.length + 1) k p
      obtain ⟨cs2, hb2, hl2, _⟩ := blk_of_Tr t2 hb
      exact t2.trans (Tr_put hb2 (by omega) k p fun t => .inl fun hh => by have := congrArg List.length (strip_some hh.2); simp at this)
    obtain ⟨cs2, hb2, hl2, hX2⟩ := blk_of_Tr t1 hb
    have hn2 : sub cs2[c]? = none := by
      have t2 := Tr_kill H k (p.length + 1) k p
      obtain ⟨cs3, hb3, hl3, _⟩ := blk_of_Tr t2 hb
      obtain ⟨cs4, hb4, hl4, hm4⟩ := blk_put_same (y := .dead) hb3 (i := c) (by omega)
      have : cs4 = cs2 := by
        have h5 : (st.letgo k p c).s.blk k p = some (e, cs4) := hb4
        rw [hb2] at h5; simpa using h5.symm
      subst this
      have h6 := sub_sh_isSome cs4[c]?
      rw [← List.getElem?_map, hm4, List.getElem?_set_self (by simp; omega)] at h6
      cases hh : sub cs4[c]? with
      | none => rfl
      | some z => rw [hh] at h6; cases h6
    have ho1 : (st.letgo k p c).s.owned k := (Sto.owned_put _ k p c _ k).2 (Sto.owned_kill.2 ho)
    obtain ⟨X', hst⟩ := storeD_sound (st := st.letgo k p c) S1.rel h1 hb2 (by omega) hn2 ho1 (S1.vc y v hy) hw hfz hv hfr2
    obtain ⟨ma, S2, hma⟩ := hst.stp
    refine ⟨X', ⟨k.argL ++ ma, by simpa using S1.trans S2, fun j h => hma j ?_⟩, hst.mb, ?_, t1.trans hst.tr, fun h => hst.own ho1, ?_⟩
    · simp only [List.mem_append] at h
      rcases h with h | h | h
      · exact .inl (mem_addL (.inl h))
      · exact .inl (mem_addL (.inr h))
      · exact .inr h
    · rw [hst.t]; exact mapT_mapT _ _ _
    · show f1 (killC k (p.length + 1) .dead) = .dead
      exact hst.fd
end
end Go.AK


/- Many cells are stored; memory is made. Conditions: none. -/
set_option linter.unusedSimpArgs false
set_option linter.unusedVariables false
namespace Go.AK
open Go

section
variable {P : Program} {X : EM} {st : St} {w w' : World}

theorem Stored.refl (H : HRel X st.s w) (k : Key) (p : List Nat) : Stored X st w k p st id w X :=
  ⟨⟨[], Stp.refl H, fun j h => by simpa using h⟩, rfl, (mapT_id _).symm, Tr.refl _ _ _ _, id, rfl⟩
theorem Stored.trans {X' X'' : EM} {st' st'' : St} {w'' : World} {k : Key} {p : List Nat} {f f' : Cell → Cell} (h : Stored X st w k p st' f w' X') (h' : Stored X' st' w' k p st'' f' w'' X'') :
    Stored X st w k p st'' (f' ∘ f) w'' X'' := by
  obtain ⟨ma, s1, h1⟩ := h.stp
  obtain ⟨ma', s2, h2⟩ := h'.stp
  refine ⟨⟨ma ++ ma', by simpa using s1.trans s2, fun j hj => h2 j ?_⟩, h'.mb.trans h.mb, by rw [h'.t, h.t, mapT_mapT], h.tr.trans h'.tr, fun ho => h'.own (h.own ho), by simp [h.fd, h'.fd]⟩
  simp only [List.mem_append] at hj
  rcases hj with hj | hj | hj
  · exact .inl (h1 j (.inl hj))
  · exact .inl (h1 j (.inr hj))
  · exact .inr hj

theorem storeC_dead {k : Key} {p : List Nat} {c : Nat} {y : Cell} {q : St × (Cell → Cell)} (h : storeC st k p c y = some q) : y ≠ .dead := by
  rintro rfl
  unfold storeC at h
  split at h
  · split at h
    · split at h
      · obtain ⟨q', h1, _⟩ := Option.map_eq_some_iff.1 h
        have : ∀ st : St, storeD st k p c .dead = none := fun st => rfl
        rw [show killC k (p.length + 1) Cell.dead = .dead from rfl, this] at h1; cases h1
      · have : ∀ st : St, storeD st k p c .dead = none := fun st => rfl
        rw [this] at h; cases h
    · cases h
  · cases h

theorem ownC_at {s : Sto} {k : Key} {p : List Nat} {c : Nat} (ho : s.owned k) {b : Nat × List Cell} (hb : s.blkS k p = some b) (hc : c < (X k p).cap) : ownC X s ((X k p).at c) := ⟨k, p, c, ho, by rw [hb]; rfl, hc, rfl⟩

theorem letgo_own (H : HRel X st.s w) {k : Key} {p : List Nat} {c : Nat} {e : Nat} {cs : List Cell} (hb : st.s.blk k p = some (e, cs)) (ho : st.s.owned k) : (st.letgo k p c).s.owned k ∧ ((st.letgo k p c).s.blkS k p).isSome := by
  refine ⟨(Sto.owned_put _ k p c _ k).2 (Sto.owned_kill.2 ho), ?_⟩
  have t2 := Tr_kill H k (p.length + 1) k p
  obtain ⟨cs3, hb3, hl3, _⟩ := blk_of_Tr t2 hb
  unfold St.letgo
  simp only
  by_cases hc : c < cs3.length
  · obtain ⟨cs4, hb4, _⟩ := blk_put_same (y := .dead) hb3 hc
    rw [Sto.blkS_of_blk hb4]; rfl
  · unfold Sto.put
    rw [hb3]
    simp only
    rw [Sto.blkS_setBlk _ k p _ hb3]
    have hp := strip_append p []
    simp only [List.append_nil] at hp
    simp only [if_true, hp]
    rfl

theorem stores_write {k : Key} {p : List Nat} : ∀ (ys : List Cell) {st : St} {X : EM} {w : World} {c : Nat} {g : Cell → Cell} {st' : St} (H : HRel X st.s w) (hs : stores st k p c g ys = some st')
    {e : Nat} {cs : List Cell} (hb : st.s.blk k p = some (e, cs)) (hl : c + ys.length ≤ cs.length) (ho : st.s.owned k) {vs : List Value} (hv : all2 (fun y v => VC X st.s (g y) v) ys vs)
    (A : Addr) (i : Nat) (hA : ∀ j, A.add (i + j) = (X k p).at (c + j)),
    ∃ w' X' f, (storeCells A vs i).run P w = .ok () w' ∧ Stored X st w k p st' f w' X'
  | [], st, X, w, c, g, st', H, hs, e, cs, hb, hl, ho, vs, hv, A, i, hA => by
    cases hs
    cases vs with
    | nil => exact ⟨w, X, id, rfl, Stored.refl H k p⟩
    | cons => exact hv.elim
  | y :: r, st, X, w, c, g, st', H, hs, e, cs, hb, hl, ho, vs, hv, A, i, hA => by
    cases vs with
    | nil => exact hv.elim
    | cons v vs =>
      simp only [stores] at hs
      cases h1 : storeC st k p c (g y) with
      | none => rw [h1] at hs; cases hs
      | some q =>
        obtain ⟨st1, f⟩ := q
        rw [h1] at hs
        simp only at hs
        have hone := VC_one hv.1 (storeC_dead h1)
        have hc : c < cs.length := by simp at hl; omega
        have hroom := H.room k p e _ (Sto.blkS_of_blk hb)
        have hcap : c < (X k p).cap := by have := hroom.1; simp at this; omega
        obtain ⟨hsome, hfz⟩ := hroom.2 c hcap
        have hfz := hfz ho
        have hA0 : A.add i = (X k p).at c := by simpa using hA 0
        obtain ⟨u, hu⟩ := Option.isSome_iff_exists.1 hsome
        have hrun : (store (A.add i) v).run P w = .ok () (w.setCell ((X k p).at c) v) := by rw [run_store P w _ v _ hone, hA0, hu]; simp [hfz]
        have hoc := ownC_at (X := X) ho (Sto.blkS_of_blk hb) hcap
        have hlg := letgo_own H (c := c) hb ho
        obtain ⟨b', hb'⟩ := Option.isSome_iff_exists.1 hlg.2
        obtain ⟨X1, S1⟩ := storeC_sound H h1 hb hc ho hv.1 (w' := w.setCell ((X k p).at c) v) (fun a ha => World.cell?_setCell_other _ _ _ _ (fun h => ha h.symm)) (fun a => by simp) (World.cell?_setCell_same _ _ _ hu)
          (Fr.setCell w hoc v) (Fr.setCell w (ownC_at hlg.1 hb' hcap) v)
        obtain ⟨ma, S, _⟩ := S1.stp
        obtain ⟨cs1, hb1, hl1, hX1⟩ := blk_of_Tr S1.tr hb
        obtain ⟨w2, X2, f2, h2, S2⟩ := stores_write r (X := X1) (g := f ∘ g) S.rel hs hb1 (by simp at hl; omega) (S1.own ho) (vs := vs) (all2.imp' (fun a b _ h => S.vc _ _ h) hv.2) A (i + 1) (fun j => by
          rw [hX1]; have := hA (1 + j); rwa [show i + (1 + j) = i + 1 + j by omega, show c + (1 + j) = c + 1 + j by omega] at this)
        refine ⟨w2, X2, f2 ∘ f, ?_, S1.trans S2⟩
        simp only [storeCells, Sem.run_bind, hrun, Result.andThen]
        exact h2

theorem stores_tell {k : Key} {p : List Nat} : ∀ (ys : List Cell) {st : St} {X : EM} {w : World} {c : Nat} {g : Cell → Cell} {st' : St} (H : HRel X st.s w) (hs : stores st k p c g ys = some st')
    {e : Nat} {cs : List Cell} (hb : st.s.blk k p = some (e, cs)) (hl : c + ys.length ≤ cs.length) (ho : st.s.owned k) {vs : List Value} (hv : all2 (fun y v => VC X st.s (g y) v) ys vs)
    (hm : ∀ j v, vs[j]? = some v → w.cell? ((X k p).at (c + j)) = some v),
    ∃ X' f, Stored X st w k p st' f w X'
  | [], st, X, w, c, g, st', H, hs, e, cs, hb, hl, ho, vs, hv, hm => by
    cases hs
    exact ⟨X, id, Stored.refl H k p⟩
  | y :: r, st, X, w, c, g, st', H, hs, e, cs, hb, hl, ho, vs, hv, hm => by
    cases vs with
    | nil => exact hv.elim
    | cons v vs =>
      simp only [stores] at hs
      cases h1 : storeC st k p c (g y) with
      | none => rw [h1] at hs; cases hs
      | some q =>
        obtain ⟨st1, f⟩ := q
        rw [h1] at hs
        simp only at hs
        have hc : c < cs.length := by simp at hl; omega
        obtain ⟨X1, S1⟩ := storeC_sound H h1 hb hc ho hv.1 (w' := w) (fun a ha => rfl) (fun a => rfl) (by simpa using hm 0 v rfl) (Fr.refl _ _ _) (Fr.refl _ _ _)
        obtain ⟨ma, S, _⟩ := S1.stp
        obtain ⟨cs1, hb1, hl1, hX1⟩ := blk_of_Tr S1.tr hb
        obtain ⟨X2, f2, S2⟩ := stores_tell r (X := X1) (g := f ∘ g) S.rel hs hb1 (by simp at hl; omega) (S1.own ho) (vs := vs) (all2.imp' (fun a b _ h => S.vc _ _ h) hv.2) (fun j u hu => by
          rw [hX1]; have := hm (j + 1) u (by simpa using hu); rwa [show c + (j + 1) = c + 1 + j by omega] at this)
        exact ⟨X2, f2 ∘ f, S1.trans S2⟩

/-- A key is made free. -/
def St.free (st : St) (K : Key) : St := match st.s.get K with
  | none => st
  | some _ => ⟨st.t.mapT (killC K 0), (st.s.kill K 0).del K, st.ma, st.mb⟩

theorem free_step {B : Base} {N : Nat} {a : Act} (I : InvX B N X st a w) (K : Key) (hK : ∀ j, K ≠ .arg j) : InvX B N X (st.free K) a w ∧ (st.free K).s.get K = none ∧
    ∃ f : Cell → Cell, f .dead = .dead ∧ (∀ x v, VC X st.s x v → VC X (st.free K).s (f x) v) ∧ (st.free K).t = st.t.mapT f := by
  unfold St.free
  cases hg : st.s.get K with
  | none => exact ⟨I, hg, id, rfl, fun x v h => h, (mapT_id _).symm⟩
  | some r =>
    have S := Stp.drop I.rel hK
    exact ⟨I.step S rfl (fun j h => by simpa using h) (fun j h => by simpa using h), by rw [Sto.get_del, if_pos rfl], killC K 0, rfl, S.vc, rfl⟩

/-- A new block. -/
theorem Stp.new {s : Sto} (H : HRel X s w) {K : Key} (hK : s.get K = none) {r : Root} {x : Ext} (hl : leaves r.cs) (hfz : r.kd ≠ .fz)
    (hcl : r.kd ≠ .box → ∀ y ∈ r.cs, cln y = true) (hfr : Fr X s w w') (hold : ∀ a, a.block < w.heap.size → w'.cell? a = w.cell? a ∧ w'.frozen? a = w.frozen? a) (hb : w.heap.size ≤ x.b)
    (hcap : r.cs.length ≤ x.cap) (hc : ∀ j, j < x.cap → (w'.cell? (x.at j)).isSome ∧ w'.frozen? (x.at j) = false)
    (hcell : ∀ i y, r.cs[i]? = some y → ∃ v, w'.cell? (x.at i) = some v ∧ VC (X.lay K x) (s.set K r) y v) :
    Stp X s w (X.lay K x) (s.set K r) w' id [] [] := by
  obtain ⟨h1, h2⟩ := H.new hK hl hfz hcl hold hb hcap hc hcell
  refine ⟨h1, fun y v hv => VC_tr (fun k p _ => h2 k p) hv, hfr, ?_, fun j _ _ q => h2 _ q, fun j _ => h2 _ []⟩
  rintro a ⟨k, q, j, ho, hbb, hj, rfl⟩
  obtain ⟨⟨e, cs⟩, hbb⟩ := Option.isSome_iff_exists.1 hbb
  rw [blkS_new] at hbb
  by_cases hk : K = k
  · subst hk
    rw [if_pos rfl, walkS_leaves hl] at hbb
    by_cases hq : q = []
    · subst hq
      right
      have : (X.lay K x) K [] = x := by unfold EM.lay; simp
      rw [this]; exact hb
    · rw [if_neg hq] at hbb; cases hbb
  · rw [if_neg hk] at hbb
    have : (X.lay K x) k q = X k q := by unfold EM.lay; rw [if_neg (fun h => hk h.1.symm)]
    rw [this] at hj ⊢
    left
    refine ⟨k, q, j, ?_, by rw [hbb]; rfl, hj, rfl⟩
    obtain ⟨r', h3, h4⟩ := ho
    rw [Sto.get_set, if_neg hk] at h3
    exact ⟨r', h3, h4⟩
end
end Go.AK


/- Operations that make or write memory, but append. Conditions: none. -/
set_option linter.unusedSimpArgs false
set_option linter.unusedVariables false
namespace Go.AK
open Go

def isOwned (s : Sto) (k : Key) : Bool := match s.get k with
  | some r => decide (r.kd ≠ .fz)
  | none => false
theorem isOwned_spec {s : Sto} {k : Key} (h : isOwned s k = true) : s.owned k := by
  unfold isOwned at h
  cases hg : s.get k with
  | none => simp [hg] at h
  | some r => rw [hg] at h; exact ⟨r, hg, by simpa using h⟩

def deads (ys : List Cell) : List Cell := ys.map fun _ => .dead
theorem deads_eq (ys : List Cell) : deads ys = List.replicate ys.length .dead := by
  induction ys with
  | nil => rfl
  | cons y ys ih => show Cell.dead :: deads ys = _; rw [ih]; rfl

/-- A new root K whose cells are these. -/
def mkRoot (st : St) (K : Key) (kd : Kind) (e : Nat) (ys : List Cell) : Option St :=
  stores ⟨st.t, st.s.set K ⟨kd, e, deads ys⟩, st.ma, st.mb⟩ K [] 0 id ys

/-- Operations that make or write memory. -/
def ast (st : St) : AO → Option St
  | .alloc d zs => let st0 := st.free (.tmp d 0); some ⟨st0.t.set d (.c (.ptr (.tmp d 0) [] 0)), st0.s.set (.tmp d 0) ⟨.box, 0, zs.map .sc⟩, st0.ma, st0.mb⟩
  | .box d x => let st0 := st.free (.tmp d 0); match (evo st0.t x).cells with
    | some ys => (mkRoot st0 (.tmp d 0) .box 0 ys).map fun st1 => ⟨st1.t.set d (.c (.ptr (.tmp d 0) [] 0)), st1.s, st1.ma, st1.mb⟩
    | none => none
  | .bslice d e zs len parts => let st0 := st.free (.tmp d 0); match fills st0.t ((List.replicate len zs).flatten.map .sc) (parts.map fun q => (q.1 * e, e, q.2)) with
    | some ys => (mkRoot st0 (.tmp d 0) .lst e ys).map fun st1 => ⟨st1.t.set d (.c (.ref (.tmp d 0) [] 0 len)), st1.s, st1.ma, st1.mb⟩
    | none => none
  | .mslice d e bytes zs n => let st0 := st.free (.tmp d 0); match evo st0.t n with
    | .c (.sc (.int _ i)) => if 0 ≤ i ∧ i < 9223372036854775808 ∧ bytes * i ≤ 281474976710656 then
        some ⟨st0.t.set d (.c (.ref (.tmp d 0) [] 0 i.toNat)), st0.s.set (.tmp d 0) ⟨.lst, e, (List.replicate i.toNat zs).flatten.map .sc⟩, st0.ma, st0.mb⟩ else none
    | _ => none
  | .store sz x v => match evo st.t x with
    | .c (.ptr k p c) => match (evo st.t v).cells, st.s.blk k p with
      | some ys, some (_, cs) => if ys.length = sz ∧ c + sz ≤ cs.length ∧ isOwned st.s k = true then stores st k p c id ys else none
      | _, _ => none
    | _ => none
  | _ => none

section
variable {P : Program} {B : Base} {N : Nat} {X : EM} {st : St} {a : Act} {w : World}

theorem InvX.stored {X' : EM} {st' : St} {w' : World} {k : Key} {p : List Nat} {f : Cell → Cell} (I : InvX B N X st a w) (h : Stored X st w k p st' f w' X') : InvX B N X' st' a w' := by
  obtain ⟨ma, S, hma⟩ := h.stp
  have := I.step S h.fd (ma' := st'.ma) (mb' := st'.mb) hma (fun j hj => by rw [h.mb]; simpa using hj)
  rw [← h.t] at this
  exact this

theorem alloc_hold (w : World) (o : Obj) : ∀ a, a.block < w.heap.size → (w.alloc o).cell? a = w.cell? a ∧ (w.alloc o).frozen? a = w.frozen? a := fun a h =>
  ⟨World.cell?_alloc_lt w o a h, World.frozen?_alloc_old w o a (Nat.ne_of_lt h)⟩

theorem cell_alloc (w : World) (vs : List Value) (t : TypeId) (i : Nat) : (w.alloc (.cells vs.toArray t)).cell? ⟨w.heap.size, i, none⟩ = vs[i]? := by
  rw [World.cell?_alloc_new]; simp
theorem frozen_alloc (w : World) (vs : Array Value) (t : TypeId) (i : Nat) : (w.alloc (.cells vs t)).frozen? ⟨w.heap.size, i, none⟩ = false := World.frozen?_alloc_new w vs t i

/-- A new block of scalars. -/
theorem new_scalars (I : InvX B N X st a w) {K : Key} (hK : st.s.get K = none) {kd : Kind} (hkd : kd ≠ .fz) {e : Nat} {vs : List Value} (hvs : ∀ v ∈ vs, v.oneCell' = true) (t : TypeId) :
    InvX B N (X.lay K ⟨w.heap.size, 0, vs.length⟩) ⟨st.t, st.s.set K ⟨kd, e, vs.map .sc⟩, st.ma, st.mb⟩ a (w.alloc (.cells vs.toArray t)) := by
  have S := Stp.new (w' := w.alloc (.cells vs.toArray t)) I.rel hK (r := ⟨kd, e, vs.map .sc⟩) (x := ⟨w.heap.size, 0, vs.length⟩) (fun x hx => by obtain ⟨u, _, rfl⟩ := List.mem_map.1 hx; rfl) hkd
    (fun _ y hy => by obtain ⟨u, _, rfl⟩ := List.mem_map.1 hy; rfl) (Fr.alloc _ _ _ _) (alloc_hold w _) (Nat.le_refl _) (by simp) (fun j hj => by
      have : (Ext.mk w.heap.size 0 vs.length).at j = ⟨w.heap.size, j, none⟩ := by simp [Ext.at]
      rw [this, cell_alloc]
      exact ⟨by simp [List.getElem?_eq_getElem hj], frozen_alloc _ _ _ _⟩) (fun i y hy => by
      have : (Ext.mk w.heap.size 0 vs.length).at i = ⟨w.heap.size, i, none⟩ := by simp [Ext.at]
      rw [List.getElem?_map] at hy
      obtain ⟨u, hu, rfl⟩ := Option.map_eq_some_iff.1 hy
      rw [this, cell_alloc]
      exact ⟨u, hu, rfl, hvs u (List.mem_iff_getElem?.2 ⟨i, hu⟩)⟩)
  have := I.step S rfl (ma' := st.ma) (mb' := st.mb) (fun j h => by simpa using h) (fun j h => by simpa using h)
  rwa [mapT_id] at this

theorem lay_K (X : EM) (K : Key) (x : Ext) : (X.lay K x) K [] = x := by unfold EM.lay; simp

/-- A new block whose cells are told one by one. -/
theorem new_root (I : InvX B N X st a w) {K : Key} (hK : st.s.get K = none) {kd : Kind} (hkd : kd ≠ .fz) {e : Nat} {ys : List Cell} {vs : List Value} (hv : all2 (VC X st.s) ys vs) (t : TypeId) {st' : St} (h : mkRoot st K kd e ys = some st') :
    ∃ X', InvX B N X' st' a (w.alloc (.cells vs.toArray t)) ∧ X' K [] = ⟨w.heap.size, 0, vs.length⟩ ∧ ∃ cs, st'.s.blkS K [] = some (e, cs) ∧ cs.length = ys.length := by
  have hlen := hv.length
  have hd : leaves (deads ys) := by rw [deads_eq]; exact leaves_dead _
  have S := Stp.new (w' := w.alloc (.cells vs.toArray t)) I.rel hK (r := ⟨kd, e, deads ys⟩) (x := ⟨w.heap.size, 0, vs.length⟩) hd hkd
    (fun _ y hy => by simp only [deads_eq] at hy; rw [(List.mem_replicate.1 hy).2]; rfl) (Fr.alloc _ _ _ _) (alloc_hold w _) (Nat.le_refl _) (by simp [deads, hlen]) (fun j hj => by
      have : (Ext.mk w.heap.size 0 vs.length).at j = ⟨w.heap.size, j, none⟩ := by simp [Ext.at]
      rw [this, cell_alloc]
      exact ⟨by simp [List.getElem?_eq_getElem hj], frozen_alloc _ _ _ _⟩) (fun i y hy => by
      have : (Ext.mk w.heap.size 0 vs.length).at i = ⟨w.heap.size, i, none⟩ := by simp [Ext.at]
      have hi := getElem?_len hy
      simp only [deads_eq] at hy hi
      have hy2 := (List.mem_replicate.1 (List.mem_iff_getElem?.2 ⟨i, hy⟩)).2
      subst hy2
      rw [this, cell_alloc]
      simp at hi
      exact ⟨_, List.getElem?_eq_getElem (by omega), trivial⟩)
  have I1 := I.step S rfl (ma' := st.ma) (mb' := st.mb) (fun j h => by simpa using h) (fun j h => by simpa using h)
  rw [mapT_id] at I1
  unfold mkRoot at h
  have hb : (Sto.set st.s K ⟨kd, e, deads ys⟩).blk K [] = some (e, deads ys) := by simp only [Sto.blk, Sto.get_set, if_true, Option.bind_some, Root.blk, walk]
  obtain ⟨X2, f2, S2⟩ := stores_tell (k := K) (p := []) ys (st := ⟨st.t, st.s.set K ⟨kd, e, deads ys⟩, st.ma, st.mb⟩) (g := id) (vs := vs) S.rel h hb (by simp [deads]) ⟨_, by rw [Sto.get_set, if_pos rfl], hkd⟩
    (all2.imp' (fun x v _ hx => S.vc x v hx) hv) (fun j v hj => by
      rw [lay_K]
      have : (Ext.mk w.heap.size 0 vs.length).at (0 + j) = ⟨w.heap.size, j, none⟩ := by simp [Ext.at]
      rw [this, cell_alloc]; exact hj)
  refine ⟨X2, I1.stored S2, ?_, ?_⟩
  · obtain ⟨cs', _, _, h3⟩ := S2.tr e _ (Sto.blkS_of_blk hb)
    rw [h3, lay_K]
  · obtain ⟨cs', h1, h2, _⟩ := S2.tr e _ (Sto.blkS_of_blk hb)
    exact ⟨cs', h1, by rw [h2]; simp [deads]⟩

theorem zsOf_spec {e : TypeId} {zs : List Value} (h : zsOf P e = some zs) : ∃ i z, P.info? e = some i ∧ i.zero = some z ∧ zs = z.cells.toList ∧ ∀ v ∈ zs, v.oneCell' = true := by
  unfold zsOf at h
  cases hi : P.info? e with
  | none => simp [hi] at h
  | some i =>
    simp only [hi] at h
    cases hz : i.zero with
    | none => simp [hz] at h
    | some z =>
      simp only [hz] at h
      split at h
      · rename_i hall
        cases h
        exact ⟨i, z, rfl, hz, rfl, fun v hv => List.all_eq_true.1 hall v hv⟩
      · cases h

theorem Grows.alloc (w : World) (o : Obj) : Grows w (w.alloc o) := fun a v h => by
  rw [World.cell?_alloc_lt w o a (cell_block (by rw [h]; rfl))]; exact h

theorem op_alloc (I : InvX B N X st a w) {o : Oper} {e : TypeId} {d : Tmp} (hd : d < N) (ho : o.op = .alloc e) (hdst : o.dst = some d) {zs : List Value} (hz : zsOf P e = some zs) {st' : St} (h : ast st (.alloc d zs) = some st') :
    ∃ u w' X', (execOp a.eval o).run P w = .ok (.value u) w' ∧ InvX B N X' st' (a.put o.dst u) w' ∧ Grows w w' := by
  obtain ⟨i, z, h1, h2, rfl, h3⟩ := zsOf_spec hz
  obtain ⟨I0, hK, _⟩ := free_step I (.tmp d 0) (by simp)
  cases h
  have I1 := new_scalars I0 hK (kd := .box) (by simp) (e := 0) h3 e
  refine ⟨.pointer (some ⟨w.heap.size, 0, none⟩), w.alloc (.cells z.cells e), X.lay (.tmp d 0) ⟨w.heap.size, 0, z.cells.toList.length⟩, ?_, ?_, Grows.alloc w _⟩
  · simp [execOp, ho, Instr.alloc, zeroValue, typeInfo, h1, h2, newVar, newRow]
  · rw [hdst]
    have := I1.put hd (av := .c (.ptr (.tmp d 0) [] 0)) (v := .pointer (some ⟨w.heap.size, 0, none⟩)) ⟨0, z.cells.toList.map (fun v => sh (.sc v)), by
      simp only [Sto.blkS, Sto.blk, Sto.get_set, if_true, Option.bind_some, Root.blk, walk, Option.map_some, shB, List.map_map]; rfl, by simp, by rw [lay_K]; simp [Ext.at]⟩
    simpa using this

theorem op_box (I : InvX B N X st a w) {o : Oper} {e : TypeId} {x : Operand} {d : Tmp} (hd : d < N) (ho : o.op = .box e x) (hdst : o.dst = some d) {st' : St} (h : ast st (.box d x) = some st') :
    ∃ u w' X', (execOp a.eval o).run P w = .ok (.value u) w' ∧ InvX B N X' st' (a.put o.dst u) w' ∧ Grows w w' := by
  obtain ⟨I0, hK, _⟩ := free_step I (.tmp d 0) (by simp)
  simp only [ast] at h
  split at h
  · rename_i ys hy
    obtain ⟨st1, h1, rfl⟩ := Option.map_eq_some_iff.1 h
    have hv := VA_cells (I0.ev x) hy
    obtain ⟨X1, I1, hX, cs, hcs, hl⟩ := new_root I0 hK (by simp) hv e h1
    refine ⟨.pointer (some ⟨w.heap.size, 0, none⟩), w.alloc (.cells (a.eval x).cells e), X1, ?_, ?_, Grows.alloc w _⟩
    · simp [execOp, ho, Instr.box, newVar, newRow]
    · rw [hdst]
      have := I1.put hd (av := .c (.ptr (.tmp d 0) [] 0)) (v := .pointer (some ⟨w.heap.size, 0, none⟩)) ⟨0, cs, hcs, by omega, by rw [hX]; simp [Ext.at]⟩
      simpa using this
  · cases h

theorem op_store (I : InvX B N X st a w) {o : Oper} {t : TypeId} {x v : Operand} (ho : o.op = .store t x v) (hdst : o.dst = none) {sz : Nat} (hz : szOf P t = some sz) {st' : St} (h : ast st (.store sz x v) = some st') :
    ∃ w' X', (execOp a.eval o).run P w = .ok .skip w' ∧ InvX B N X' st' (a.put o.dst undef) w' := by
  simp only [ast] at h
  split at h
  · rename_i k p c hx
    split at h
    · rename_i ys e cs hy hb
      split at h
      · rename_i hc
        obtain ⟨h1, h2, h3⟩ := hc
        have hv := VA_cells (I.ev v) hy
        have hp := I.ev x
        rw [hx] at hp
        obtain ⟨e', cs', h4, h5, h6⟩ := hp
        obtain ⟨w', X', f, h7, S⟩ := stores_write (P := P) ys I.rel h hb (by omega) (isOwned_spec h3) hv ((X k p).at c) 0 (fun j => by rw [Ext.at_add]; simp)
        refine ⟨w', X', ?_, ?_⟩
        · have hr := run_szOf hz w
          have hsz : (a.eval v).cells.size = sz := by have := hv.length; simp at this; omega
          simp [execOp, ho, Instr.storeAt, h6, Instr.sureAddr, storeVar, hr, hsz, h7]
        · rw [hdst]; exact I.stored S
      · cases h
    · cases h
  · cases h

theorem range_mod' (zs : List Value) : ∀ (n : Nat), 0 < zs.length → ((List.range (n * zs.length)).map fun i => zs[i % zs.length]!) = (List.replicate n zs).flatten
  | 0, _ => by simp
  | n + 1, h => by
    have ih := range_mod' zs n h
    rw [Nat.succ_mul, List.range_add, List.map_append, ih, List.replicate_succ', List.flatten_append]
    congr 1
    simp only [List.flatten_cons, List.flatten_nil, List.append_nil, List.map_map]
    apply List.ext_getElem?
    intro i
    rw [List.getElem?_map]
    by_cases hi : i < zs.length
    · rw [List.getElem?_range hi]
      simp [Nat.mul_add_mod, Nat.mod_eq_of_lt hi, List.getElem?_eq_getElem hi]
    · rw [List.getElem?_eq_none (by simpa using hi), List.getElem?_eq_none (by simpa using hi)]; rfl

theorem arr_map0 {α : Type} (f : Nat → α) : (Array.range 0).map f = #[] := by apply Array.ext'; simp
theorem wrap_i64 {j : Int} (h0 : 0 ≤ j) (h1 : j < 9223372036854775808) : IntKind.i64.wrap j = j := by
  unfold IntKind.wrap
  simp [IntKind.bits, IntKind.signed]
  omega
theorem arr_mod (zs : Array Value) (n : Nat) (h : 0 < zs.size) : (Array.range (n * zs.size)).map (fun x => zs[x % zs.size]!) = (List.replicate n zs.toList).flatten.toArray := by
  apply Array.ext'
  have := range_mod' zs.toList n (by simpa using h)
  simp only [Array.toList_map, Array.toList_range]
  rw [← this]
  simp only [Array.length_toList]
  apply List.map_congr_left
  intro i _
  cases h : zs[i % zs.size]? <;> simp [getElem!_def, h]

theorem op_mslice (I : InvX B N X st a w) {o : Oper} {t el : TypeId} {i : Tmp} {d : Tmp} (hd : d < N) (ho : o.op = .makeSlice t (.tmp i) (.tmp i)) (hdst : o.dst = some d) (he : elOf P t = some el) {inf : TypeInfo} (hi : P.info? el = some inf) {zs : List Value} (hz : zsOf P el = some zs)
    (hsz : inf.size = zs.length) (hpos : 0 < inf.size) {st' : St} (h : ast st (.mslice d inf.size inf.bytes zs (.tmp i)) = some st') :
    ∃ u w' X', (execOp a.eval o).run P w = .ok (.value u) w' ∧ InvX B N X' st' (a.put o.dst u) w' ∧ Grows w w' := by
  obtain ⟨inf', z, h1, h2, rfl, h3⟩ := zsOf_spec hz
  rw [hi] at h1; cases h1
  obtain ⟨I0, hK, _⟩ := free_step I (.tmp d 0) (by simp)
  simp only [ast] at h
  split at h
  · rename_i k j hj
    split at h
    · rename_i hc
      obtain ⟨c1, c2, c3⟩ := hc
      cases h
      have hjv := I0.sc hj
      have hw : IntKind.i64.wrap j = j := wrap_i64 c1 c2
      have hvs : ∀ v ∈ (List.replicate j.toNat z.cells.toList).flatten, v.oneCell' = true := fun v hv => by
        simp only [List.mem_flatten, List.mem_replicate] at hv
        obtain ⟨l, ⟨_, rfl⟩, hv⟩ := hv
        exact h3 v hv
      have I1 := new_scalars I0 hK (kd := .lst) (by simp) (e := inf.size) hvs el
      have hrow : (Array.range (j.toNat * inf.size)).map (fun x => z.cells[x % z.cells.size]!) = ((List.replicate j.toNat z.cells.toList).flatten).toArray := by
        simp only [Array.length_toList] at hsz
        rw [hsz]; exact arr_mod _ _ (by omega)
      refine ⟨.slice (some ⟨w.heap.size, 0, none⟩) j.toNat j.toNat, w.alloc (.cells ((List.replicate j.toNat z.cells.toList).flatten).toArray el), X.lay (.tmp d 0) ⟨w.heap.size, 0, (List.replicate j.toNat z.cells.toList).flatten.length⟩, ?_, ?_, Grows.alloc w _⟩
      · have hb : ¬ (281474976710656 < (inf.bytes : Int) * j) := by omega
        have hneg : ¬ (j < 0) := by omega
        by_cases hn : j.toNat * inf.size = 0
        · have hj0 : j.toNat = 0 := by
            rcases Nat.mul_eq_zero.1 hn with h | h
            · exact h
            · omega
          simp [execOp, ho, Instr.makeSlice, run_underlying (elOf_some he), hjv, asInt, asIntOf, typeInfo, hi, hw, hb, hneg, sizeOf, hn, newRow, hj0]
          rw [arr_map0]
        · simp [execOp, ho, Instr.makeSlice, run_underlying (elOf_some he), hjv, asInt, asIntOf, typeInfo, hi, hw, hb, hneg, sizeOf, hn, newRow, zeroValue, h2, hrow]
      · rw [hdst]
        have hlen : (List.replicate j.toNat z.cells.toList).flatten.length = j.toNat * inf.size := by rw [hsz]; simp
        have := I1.put hd (av := .c (.ref (.tmp d 0) [] 0 j.toNat)) (v := .slice (some ⟨w.heap.size, 0, none⟩) j.toNat j.toNat) ⟨inf.size, ((List.replicate j.toNat z.cells.toList).flatten.map Cell.sc).map sh, j.toNat, some ⟨w.heap.size, 0, none⟩, by
          simp only [Sto.blkS, Sto.blk, Sto.get_set, if_true, Option.bind_some, Root.blk, walk, Option.map_some, shB], by simp only [List.length_map]; omega, Nat.le_refl _, rfl, .inr ⟨by rw [lay_K]; simp [Ext.at], by rw [lay_K]; simp only; omega⟩⟩
        simpa using this
    · cases h
  · cases h

theorem fillB (I : InvX B N X st a w) (e : Nat) : ∀ (ps : List (Nat × Operand)) (cs cs' : List Cell) (vs : Array Value), fills st.t cs (ps.map fun q => (q.1 * e, e, q.2)) = some cs' → all2 (VC X st.s) cs vs.toList →
    ∃ us, Instr.fill (fun i => some (i * e, e)) vs (ps.map fun p => (p.1, a.eval p.2)) = some us ∧ all2 (VC X st.s) cs' us.toList
  | [], cs, cs', vs, h, hv => by cases h; exact ⟨vs, rfl, hv⟩
  | (i, x) :: r, cs, cs', vs, h, hv => by
    simp only [List.map_cons, fills] at h
    split at h
    · rename_i xs hx
      split at h
      · rename_i hc
        have ha := VA_cells (I.ev x) hx
        have hlen := ha.length
        have hlen2 := hv.length
        simp only [Array.length_toList] at hlen hlen2
        have hne : ((a.eval x).cells.size ≠ e || i * e + (a.eval x).cells.size > vs.size) = false := by simp; omega
        simp only [List.map_cons, Instr.fill, hne, Bool.false_eq_true, if_false]
        refine fillB I e r _ cs' _ h ?_
        rw [arr_foldl_setM]
        exact all2_setM _ hv ha
      · cases h
    · cases h

theorem op_bslice (I : InvX B N X st a w) {o : Oper} {t el : TypeId} {len : Nat} {ps : Array (Nat × Operand)} {d : Tmp} (hd : d < N) (ho : o.op = .buildSlice t len ps) (hdst : o.dst = some d) (he : elOf P t = some el) {sz : Nat} (hsz : szOf P el = some sz) {zs : List Value} (hz : zsOf P el = some zs)
    (hlim : len * sz ≤ 2 ^ 24) (hzl : sz = zs.length) (hpos : 0 < sz) {st' : St} (h : ast st (.bslice d sz zs len ps.toList) = some st') :
    ∃ u w' X', (execOp a.eval o).run P w = .ok (.value u) w' ∧ InvX B N X' st' (a.put o.dst u) w' ∧ Grows w w' := by
  obtain ⟨inf, z, h1, h2, rfl, h3⟩ := zsOf_spec hz
  obtain ⟨I0, hK, _⟩ := free_step I (.tmp d 0) (by simp)
  simp only [ast] at h
  split at h
  · rename_i ys hy
    obtain ⟨st1, h4, rfl⟩ := Option.map_eq_some_iff.1 h
    have hrow : (Array.range (len * sz)).map (fun x => z.cells[x % z.cells.size]!) = ((List.replicate len z.cells.toList).flatten).toArray := by
      simp only [Array.length_toList] at hzl
      rw [hzl]; exact arr_mod _ _ (by omega)
    have hvs : ∀ v ∈ (List.replicate len z.cells.toList).flatten, v.oneCell' = true := fun v hv => by
      simp only [List.mem_flatten, List.mem_replicate] at hv
      obtain ⟨l, ⟨_, rfl⟩, hv⟩ := hv
      exact h3 v hv
    have hsc : all2 (VC X (st.free (.tmp d 0)).s) ((List.replicate len z.cells.toList).flatten.map .sc) ((List.replicate len z.cells.toList).flatten.toArray).toList := by
      revert hvs
      simp only
      generalize (List.replicate len z.cells.toList).flatten = l
      intro hvs
      induction l with
      | nil => trivial
      | cons u l ih => exact ⟨⟨rfl, hvs u (by simp)⟩, ih fun u hu => hvs u (by simp [hu])⟩
    obtain ⟨us, h5, h6⟩ := fillB I0 sz ps.toList _ ys _ hy hsc
    obtain ⟨X1, I1, hX, cs, hcs, hl⟩ := new_root I0 hK (by simp) h6 el h4
    have hulen : us.toList.length = len * sz := by
      have := h6.length
      have h7 : ∀ (l : List (Nat × Nat × Operand)) (cs cs' : List Cell), fills (st.free (.tmp d 0)).t cs l = some cs' → cs'.length = cs.length := by
        intro l
        induction l with
        | nil => intro cs cs' h; cases h; rfl
        | cons q l ih =>
          obtain ⟨o1, s1, x1⟩ := q
          intro cs cs' h
          simp only [fills] at h
          split at h
          · split at h
            · rw [ih _ _ h, setM_length]
            · cases h
          · cases h
      have h8 := h7 _ _ _ hy
      simp at h8
      rw [← this, h8, hzl]; simp
    have hcl : cs.length = len * sz := by rw [hl, h6.length, hulen]
    refine ⟨.slice (some ⟨w.heap.size, 0, none⟩) len len, w.alloc (.cells us el), X1, ?_, ?_, Grows.alloc w _⟩
    · have hlim' : ¬ (16777216 < len * sz) := by simpa using hlim
      have hr := run_szOf hsz w
      have h9 : (ps.map fun (i, x) => (i, a.eval x)).toList = ps.toList.map fun p => (p.1, a.eval p.2) := by simp
      by_cases hn : len * sz = 0
      · have hl0 : len = 0 := by
          rcases Nat.mul_eq_zero.1 hn with h | h
          · exact h
          · omega
        subst hl0
        simp [execOp, ho, Instr.buildSlice, run_underlying (elOf_some he), hr]
        rw [arr_map0]
        have h5' : Instr.fill (fun i => some (i * sz, sz)) #[] (ps.toList.map fun p => (p.1, a.eval p.2)) = some us := by simpa using h5
        rw [h5']
        simp [newRow]
      · simp [execOp, ho, Instr.buildSlice, run_underlying (elOf_some he), hr, hlim', hn, newRow, zeroValue, typeInfo, h1, h2, hrow]
        rw [h5]
        simp [newRow]
    · rw [hdst]
      have hx2 : us.toList.toArray = us := by simp
      rw [hx2] at I1
      have := I1.put hd (av := .c (.ref (.tmp d 0) [] 0 len)) (v := .slice (some ⟨w.heap.size, 0, none⟩) len len) ⟨sz, cs, len, some ⟨w.heap.size, 0, none⟩, hcs, by omega, Nat.le_refl _, rfl, .inr ⟨by rw [hX]; simp [Ext.at], by rw [hX]; simp only; omega⟩⟩
      simpa using this
  · cases h
end
end Go.AK
