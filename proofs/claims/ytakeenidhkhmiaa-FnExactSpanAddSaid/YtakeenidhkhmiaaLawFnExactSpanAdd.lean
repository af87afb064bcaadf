-- by a program of this session (wip/pr)
import Derived.Test.YtakeenidhkhmiaaRows
import Derived.Test.YtakeenidhkhmiaaPFnExactSpanAddx7
import Derived.Test.YtakeenidhkhmiaaPureFnExactSpanAdd
import Derived.Test.YtakeenidhkhmiaaOp
import Derived.WalkKit
import Derived.ProofKit
import Derived.OpenShut
import Derived.ShutString
import Derived.ChangeOld
import Derived.Below
import Derived.SizedLaws
namespace Go.Proofs.Ytakeenidhkhmiaa.fnExactSpanAdd
open Go.ChangeShapes Go.WideShapes Go.ChangeAt Go.RowKit Go.Proofs.Ytakeenidhkhmiaa.PFnExactSpanAdd Go.Proofs.YtakeenidhkhmiaaW.PrintWords
open Go.ChangeMaps (open_string shut_string)
set_option linter.unusedVariables false
theorem own : ownKnob Try.prog.godebug = none := by kernel_rfl
theorem laidOut : laidOutB Try.prog = true := by kernel_rfl
theorem opens_T25 : Op.Opens Try.prog 25 k25 good_T25 := by
  intro H enc w fuel cs x h
  obtain ⟨ys, n, _, _, hlen, hyl, hf⟩ := DataW.trod_struct Try.underlying25 h
  have hl : cs.length = 2 := hlen.trans (by kernel_rfl)
  have hn : ys.length = 2 := hyl
  have q0 : DataW.trod enc Try.prog w 0 (fun _ => true) true n 23 ((cs.drop 0).take (Try.prog.cellsOf 23)) = ys[0]? := hf 0 _ rfl
  rw [show Try.prog.cellsOf 23 = 1 from by kernel_rfl, List.getElem?_eq_getElem (show 0 < ys.length by omega)] at q0
  obtain ⟨a0, k0, g0⟩ := (Op.opens_int Try.underlying23) H enc w n _ _ q0
  have q1 : DataW.trod enc Try.prog w 0 (fun _ => true) true n 23 ((cs.drop 1).take (Try.prog.cellsOf 23)) = ys[1]? := hf 1 _ rfl
  rw [show Try.prog.cellsOf 23 = 1 from by kernel_rfl, List.getElem?_eq_getElem (show 1 < ys.length by omega)] at q1
  obtain ⟨a1, k1, g1⟩ := (Op.opens_int Try.underlying23) H enc w n _ _ q1
  exact ⟨⟨a0, a1⟩, ⟨_, cs.drop 1, (Op.cut_cells cs 0 1).symm, k0, (Op.cut_last cs 1 1 hl ▸ k1)⟩, ⟨g0, g1⟩⟩
set_option maxRecDepth 100000 in
theorem lifted (os : Os) (started : os.Started) (H : Type) (enc : TypeId × Value → H) :
    ReturnsInHanded {} Try.checked os 3 .any (Rows.fnExactSpanAddSpec.pre6 enc Try.prog Try.f3 Rows.fnExactSpanAddRow.domain false) (Rows.fnExactSpanAddSpec.post enc Try.prog Try.f3 false true false false) := by
  refine returnsInHanded_of_change_sized (C := Try.checked) own started (by kernel_rfl) Try.func3
    (ChangeSpec.witness6 (enc := enc) (C := Try.checked) false ⟨#[], #[.slice none 0 0, .agg #[(.int .u64 0), (.int .u64 0)]], []⟩ 8 (by kernel_rfl) (by kernel_rfl) (by kernel_rfl) (by kernel_rfl)) ?_
  intro W base args ds gs before hval0 hW hcnd hsz0 _
  have hsz : (DataW.weightsEach Try.prog (Try.f3.params.toList ++ Rows.fnExactSpanAddSpec.plain.varTypes Try.prog) (ds ++ gs)).all (· ≤ reachBytes) = true := hsz0
  have hval : ∀ (j : Nat) t v, Try.f3.params[j]? = some t → args[j]? = some v → Value.okWide Try.prog W .any base t v := hval0
  have hW' := hW
  obtain ⟨p, q, hA0, hV, rfl, hfz, hnd⟩ := hW
  have hA : DataW.TrodAll enc Try.prog W 0 (fun _ => true) true Try.f3.params.toList args.toList ds p := hA0
  rw [Try.params3] at hA hval hsz
  obtain ⟨v0, vs0, d0, ds0, p0, q0, hargs, rfl, rfl, h0, r0⟩ := trodAll_cons hA
  obtain ⟨v1, vs1, d1, ds1, p1, q1, rfl, rfl, rfl, h1, r1⟩ := trodAll_cons r0
  obtain ⟨rfl, rfl, rfl⟩ := trodAll_nil r1
  obtain rfl : args = #[v0, v1] := by cases args; simp_all
  obtain ⟨rfl, rfl⟩ := trodVars_none hV
  obtain ⟨A0, len0, c0, rfl⟩ := okWide_slice Try.underlying22 (hval 0 22 v0 rfl rfl)
  have k0 := h0
  have lt0 : ∀ x ∈ p0, x.block < W.heap.size := by obtain ⟨m, hm⟩ := k0; exact DataW.trod_lt m _ _ _ hm
  obtain ⟨fuel0, hf0⟩ := h0
  obtain ⟨l0, ⟨A0', c0', hcs0, hc0, hr0⟩, hg0⟩ := (Op.opens_slice Try.underlying22 (by kernel_rfl) opens_T25) H enc W fuel0 _ _ hf0
  obtain ⟨rfl, rfl, rfl⟩ : A0 = A0' ∧ len0 = l0.length ∧ c0 = c0' := by simpa [Value.cells] using hcs0
  obtain ⟨cs1, rfl, hz1⟩ := okWide_struct Try.underlying25 (hval 1 25 v1 rfl rfl)
  have k1 := h1
  have lt1 : ∀ x ∈ p1, x.block < W.heap.size := by obtain ⟨m, hm⟩ := k1; exact DataW.trod_lt m _ _ _ hm
  obtain ⟨fuel1, hf1⟩ := h1
  obtain ⟨x1, hK1, hg1⟩ := opens_T25 H enc W fuel1 _ _ hf1
  obtain hcs1 := k25_open hK1
  obtain rfl : cs1 = #[.int .u64 x1.f0, .int .u64 x1.f1] := by have e_ := congrArg List.toArray hcs1; simpa [Value.cells] using e_
  clear hA0 hval0 hsz0 hsz
  obtain ⟨k, hk⟩ := Pure.FnExactSpanAdd l0 x1.f0 x1.f1 hg0.1 hg0.2 hg1
  refine (PFnExactSpanAdd.laws_FnExactSpanAdd.calls k A0 c0 l0 x1.f0 x1.f1 true W hr0 hc0 hk).mono fun e W' ⟨he, bel0⟩ => ?_
  have bel : Below W.heap.size W W' := bel0
  subst he
  exact ⟨_, rfl, _, _, _, [], _, [], hW', trodAll_mk1 (shut_bool Try.underlying4 _), (trodAll_cons_mk (Below.trod laidOut (by kernel_rfl) (of_decide_eq_true (by kernel_rfl)) k0 bel lt0) (trodAll_cons_mk (Below.trod laidOut (by kernel_rfl) (of_decide_eq_true (by kernel_rfl)) k1 bel lt1) trodAll_mk0)), rfl, bel.frame _, fun h => by cases h⟩
theorem over : Rows.fnExactSpanAddRow.holds Try.pinned (OpenSpec.ofChange Rows.fnExactSpanAddSpec) :=
  OpenClaim.holds_of_wide 3 Try.f3 rfl rfl rfl rfl rfl rfl rfl ⟨rfl, rfl, rfl, rfl, rfl⟩ rfl rfl rfl rfl rfl (by kernel_rfl) Try.func3 (by kernel_rfl)
    (of_decide_eq_true (by kernel_rfl)) (by unfold Func.isWrapper; first | (rw [if_pos (by decide +kernel)]; kernel_rfl) | (rw [if_neg (by decide +kernel)]; exact ⟨rfl, rfl⟩))
    (fun os started H enc _ => lifted os started H enc)
theorem proved : Rows.FnExactSpanAddSaid := over
#print axioms proved
end Go.Proofs.Ytakeenidhkhmiaa.fnExactSpanAdd
namespace Go.Proofs.Ytakeenidhkhmiaa
/-- The row, under a short name, for the claim. -/
theorem fnExactSpanAdd_holds : Rows.FnExactSpanAddSaid := fnExactSpanAdd.proved
end Go.Proofs.Ytakeenidhkhmiaa
