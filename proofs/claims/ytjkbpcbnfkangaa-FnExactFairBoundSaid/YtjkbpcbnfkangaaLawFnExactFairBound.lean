-- by a program of this session (wip/pr)
import Derived.Test.YtjkbpcbnfkangaaRows
import Derived.Test.YtjkbpcbnfkangaaPFnExactFairBoundx3
import Derived.Test.YtjkbpcbnfkangaaPureFnExactFairBound
import Derived.Test.YtjkbpcbnfkangaaOp
import Derived.WalkKit
import Derived.ProofKit
import Derived.OpenShut
import Derived.ShutString
import Derived.ChangeOld
import Derived.Below
import Derived.SizedLaws
namespace Go.Proofs.Ytjkbpcbnfkangaa.fnExactFairBound
open Go.ChangeShapes Go.WideShapes Go.ChangeAt Go.RowKit Go.Proofs.Ytjkbpcbnfkangaa.PFnExactFairBound Go.Proofs.YtjkbpcbnfkangaaW.PrintWords
open Go.ChangeMaps (open_string shut_string)
set_option linter.unusedVariables false
theorem own : ownKnob Try.prog.godebug = none := by kernel_rfl
theorem laidOut : laidOutB Try.prog = true := by kernel_rfl
theorem opens_T40 : Op.Opens Try.prog 40 k40 good_T40 := by
  intro H enc w fuel cs x h
  obtain ⟨ys, n, _, _, hlen, hyl, hf⟩ := DataW.trod_struct Try.underlying40 h
  have hl : cs.length = 12 := hlen.trans (by kernel_rfl)
  have hn : ys.length = 12 := hyl
  have q0 : DataW.trod enc Try.prog w 0 (fun _ => true) true n 2 ((cs.drop 0).take (Try.prog.cellsOf 2)) = ys[0]? := hf 0 _ rfl
  rw [show Try.prog.cellsOf 2 = 1 from by kernel_rfl, List.getElem?_eq_getElem (show 0 < ys.length by omega)] at q0
  obtain ⟨a0, k0, g0⟩ := (Op.opens_int Try.underlying2) H enc w n _ _ q0
  have q1 : DataW.trod enc Try.prog w 0 (fun _ => true) true n 2 ((cs.drop 1).take (Try.prog.cellsOf 2)) = ys[1]? := hf 1 _ rfl
  rw [show Try.prog.cellsOf 2 = 1 from by kernel_rfl, List.getElem?_eq_getElem (show 1 < ys.length by omega)] at q1
  obtain ⟨a1, k1, g1⟩ := (Op.opens_int Try.underlying2) H enc w n _ _ q1
  have q2 : DataW.trod enc Try.prog w 0 (fun _ => true) true n 2 ((cs.drop 2).take (Try.prog.cellsOf 2)) = ys[2]? := hf 2 _ rfl
  rw [show Try.prog.cellsOf 2 = 1 from by kernel_rfl, List.getElem?_eq_getElem (show 2 < ys.length by omega)] at q2
  obtain ⟨a2, k2, g2⟩ := (Op.opens_int Try.underlying2) H enc w n _ _ q2
  have q3 : DataW.trod enc Try.prog w 0 (fun _ => true) true n 2 ((cs.drop 3).take (Try.prog.cellsOf 2)) = ys[3]? := hf 3 _ rfl
  rw [show Try.prog.cellsOf 2 = 1 from by kernel_rfl, List.getElem?_eq_getElem (show 3 < ys.length by omega)] at q3
  obtain ⟨a3, k3, g3⟩ := (Op.opens_int Try.underlying2) H enc w n _ _ q3
  have q4 : DataW.trod enc Try.prog w 0 (fun _ => true) true n 2 ((cs.drop 4).take (Try.prog.cellsOf 2)) = ys[4]? := hf 4 _ rfl
  rw [show Try.prog.cellsOf 2 = 1 from by kernel_rfl, List.getElem?_eq_getElem (show 4 < ys.length by omega)] at q4
  obtain ⟨a4, k4, g4⟩ := (Op.opens_int Try.underlying2) H enc w n _ _ q4
  have q5 : DataW.trod enc Try.prog w 0 (fun _ => true) true n 2 ((cs.drop 5).take (Try.prog.cellsOf 2)) = ys[5]? := hf 5 _ rfl
  rw [show Try.prog.cellsOf 2 = 1 from by kernel_rfl, List.getElem?_eq_getElem (show 5 < ys.length by omega)] at q5
  obtain ⟨a5, k5, g5⟩ := (Op.opens_int Try.underlying2) H enc w n _ _ q5
  have q6 : DataW.trod enc Try.prog w 0 (fun _ => true) true n 2 ((cs.drop 6).take (Try.prog.cellsOf 2)) = ys[6]? := hf 6 _ rfl
  rw [show Try.prog.cellsOf 2 = 1 from by kernel_rfl, List.getElem?_eq_getElem (show 6 < ys.length by omega)] at q6
  obtain ⟨a6, k6, g6⟩ := (Op.opens_int Try.underlying2) H enc w n _ _ q6
  have q7 : DataW.trod enc Try.prog w 0 (fun _ => true) true n 2 ((cs.drop 7).take (Try.prog.cellsOf 2)) = ys[7]? := hf 7 _ rfl
  rw [show Try.prog.cellsOf 2 = 1 from by kernel_rfl, List.getElem?_eq_getElem (show 7 < ys.length by omega)] at q7
  obtain ⟨a7, k7, g7⟩ := (Op.opens_int Try.underlying2) H enc w n _ _ q7
  have q8 : DataW.trod enc Try.prog w 0 (fun _ => true) true n 2 ((cs.drop 8).take (Try.prog.cellsOf 2)) = ys[8]? := hf 8 _ rfl
  rw [show Try.prog.cellsOf 2 = 1 from by kernel_rfl, List.getElem?_eq_getElem (show 8 < ys.length by omega)] at q8
  obtain ⟨a8, k8, g8⟩ := (Op.opens_int Try.underlying2) H enc w n _ _ q8
  have q9 : DataW.trod enc Try.prog w 0 (fun _ => true) true n 2 ((cs.drop 9).take (Try.prog.cellsOf 2)) = ys[9]? := hf 9 _ rfl
  rw [show Try.prog.cellsOf 2 = 1 from by kernel_rfl, List.getElem?_eq_getElem (show 9 < ys.length by omega)] at q9
  obtain ⟨a9, k9, g9⟩ := (Op.opens_int Try.underlying2) H enc w n _ _ q9
  have q10 : DataW.trod enc Try.prog w 0 (fun _ => true) true n 2 ((cs.drop 10).take (Try.prog.cellsOf 2)) = ys[10]? := hf 10 _ rfl
  rw [show Try.prog.cellsOf 2 = 1 from by kernel_rfl, List.getElem?_eq_getElem (show 10 < ys.length by omega)] at q10
  obtain ⟨a10, k10, g10⟩ := (Op.opens_int Try.underlying2) H enc w n _ _ q10
  have q11 : DataW.trod enc Try.prog w 0 (fun _ => true) true n 23 ((cs.drop 11).take (Try.prog.cellsOf 23)) = ys[11]? := hf 11 _ rfl
  rw [show Try.prog.cellsOf 23 = 1 from by kernel_rfl, List.getElem?_eq_getElem (show 11 < ys.length by omega)] at q11
  obtain ⟨a11, k11, g11⟩ := (Op.opens_int Try.underlying23) H enc w n _ _ q11
  exact ⟨⟨a0, a1, a2, a3, a4, a5, a6, a7, a8, a9, a10, a11⟩, ⟨_, cs.drop 1, (Op.cut_cells cs 0 1).symm, k0, ⟨_, cs.drop 2, (Op.cut_cells cs 1 1).symm, k1, ⟨_, cs.drop 3, (Op.cut_cells cs 2 1).symm, k2, ⟨_, cs.drop 4, (Op.cut_cells cs 3 1).symm, k3, ⟨_, cs.drop 5, (Op.cut_cells cs 4 1).symm, k4, ⟨_, cs.drop 6, (Op.cut_cells cs 5 1).symm, k5, ⟨_, cs.drop 7, (Op.cut_cells cs 6 1).symm, k6, ⟨_, cs.drop 8, (Op.cut_cells cs 7 1).symm, k7, ⟨_, cs.drop 9, (Op.cut_cells cs 8 1).symm, k8, ⟨_, cs.drop 10, (Op.cut_cells cs 9 1).symm, k9, ⟨_, cs.drop 11, (Op.cut_cells cs 10 1).symm, k10, (Op.cut_last cs 11 1 hl ▸ k11)⟩⟩⟩⟩⟩⟩⟩⟩⟩⟩⟩, ⟨g0, g1, g2, g3, g4, g5, g6, g7, g8, g9, g10, g11⟩⟩
set_option maxRecDepth 100000 in
theorem lifted (os : Os) (started : os.Started) (H : Type) (enc : TypeId × Value → H) :
    ReturnsInHanded {} Try.checked os 9 .any (Rows.fnExactFairBoundSpec.pre6 enc Try.prog Try.f9 Rows.fnExactFairBoundRow.domain false) (Rows.fnExactFairBoundSpec.post enc Try.prog Try.f9 false true false false) := by
  refine returnsInHanded_of_change_sized (C := Try.checked) own started (by kernel_rfl) Try.func9
    (ChangeSpec.witness6 (enc := enc) (C := Try.checked) false ⟨#[], #[.agg #[(.int .i64 0), (.int .i64 0), (.int .i64 0), (.int .i64 0), (.int .i64 0), (.int .i64 0), (.int .i64 0), (.int .i64 0), (.int .i64 0), (.int .i64 0), (.int .i64 0), (.int .u32 0)], .int .i64 0], []⟩ 8 (by kernel_rfl) (by kernel_rfl) (by kernel_rfl) (by kernel_rfl)) ?_
  intro W base args ds gs before hval0 hW hcnd hsz0 _
  have hsz : (DataW.weightsEach Try.prog (Try.f9.params.toList ++ Rows.fnExactFairBoundSpec.plain.varTypes Try.prog) (ds ++ gs)).all (· ≤ reachBytes) = true := hsz0
  have hval : ∀ (j : Nat) t v, Try.f9.params[j]? = some t → args[j]? = some v → Value.okWide Try.prog W .any base t v := hval0
  have hW' := hW
  obtain ⟨p, q, hA0, hV, rfl, hfz, hnd⟩ := hW
  have hA : DataW.TrodAll enc Try.prog W 0 (fun _ => true) true Try.f9.params.toList args.toList ds p := hA0
  rw [Try.params9] at hA hval hsz
  obtain ⟨v0, vs0, d0, ds0, p0, q0, hargs, rfl, rfl, h0, r0⟩ := trodAll_cons hA
  obtain ⟨v1, vs1, d1, ds1, p1, q1, rfl, rfl, rfl, h1, r1⟩ := trodAll_cons r0
  obtain ⟨rfl, rfl, rfl⟩ := trodAll_nil r1
  obtain rfl : args = #[v0, v1] := by cases args; simp_all
  obtain ⟨rfl, rfl⟩ := trodVars_none hV
  obtain ⟨cs0, rfl, hz0⟩ := okWide_struct Try.underlying40 (hval 0 40 v0 rfl rfl)
  have k0 := h0
  have lt0 : ∀ x ∈ p0, x.block < W.heap.size := by obtain ⟨m, hm⟩ := k0; exact DataW.trod_lt m _ _ _ hm
  obtain ⟨fuel0, hf0⟩ := h0
  obtain ⟨x0, hK0, hg0⟩ := opens_T40 H enc W fuel0 _ _ hf0
  obtain hcs0 := k40_open hK0
  obtain rfl : cs0 = #[.int .i64 x0.f0, .int .i64 x0.f1, .int .i64 x0.f2, .int .i64 x0.f3, .int .i64 x0.f4, .int .i64 x0.f5, .int .i64 x0.f6, .int .i64 x0.f7, .int .i64 x0.f8, .int .i64 x0.f9, .int .i64 x0.f10, .int .u32 x0.f11] := by have e_ := congrArg List.toArray hcs0; simpa [Value.cells] using e_
  obtain ⟨a1, rfl, rfl, rfl, w1⟩ := open_int Try.underlying2 (hval 1 2 v1 rfl rfl) h1
  clear hA0 hval0 hsz0 hsz
  obtain ⟨k, hk⟩ := Pure.FnExactFairBound x0.f0 x0.f1 x0.f2 x0.f3 x0.f4 x0.f5 x0.f6 x0.f7 x0.f8 x0.f9 x0.f10 x0.f11 a1 hg0 w1
  refine (PFnExactFairBound.laws_FnExactFairBound.calls k x0.f0 x0.f1 x0.f2 x0.f3 x0.f4 x0.f5 x0.f6 x0.f7 x0.f8 x0.f9 x0.f10 x0.f11 a1 true W  hk).mono fun e W' ⟨he, bel0⟩ => ?_
  have bel : Below W.heap.size W W' := bel0
  subst he
  exact ⟨_, rfl, _, _, _, [], _, [], hW', trodAll_mk1 (shut_bool Try.underlying4 _), (trodAll_cons_mk (Below.trod laidOut (by kernel_rfl) (of_decide_eq_true (by kernel_rfl)) k0 bel lt0) (trodAll_cons_mk (shut_int Try.underlying2 w1) trodAll_mk0)), rfl, bel.frame _, fun h => by cases h⟩
theorem over : Rows.fnExactFairBoundRow.holds Try.pinned (OpenSpec.ofChange Rows.fnExactFairBoundSpec) :=
  OpenClaim.holds_of_wide 9 Try.f9 rfl rfl rfl rfl rfl rfl rfl ⟨rfl, rfl, rfl, rfl, rfl⟩ rfl rfl rfl rfl rfl (by kernel_rfl) Try.func9 (by kernel_rfl)
    (of_decide_eq_true (by kernel_rfl)) (by unfold Func.isWrapper; first | (rw [if_pos (by decide +kernel)]; kernel_rfl) | (rw [if_neg (by decide +kernel)]; exact ⟨rfl, rfl⟩))
    (fun os started H enc _ => lifted os started H enc)
theorem proved : Rows.FnExactFairBoundSaid := over
#print axioms proved
end Go.Proofs.Ytjkbpcbnfkangaa.fnExactFairBound
namespace Go.Proofs.Ytjkbpcbnfkangaa
/-- The row, under a short name, for the claim. -/
theorem fnExactFairBound_holds : Rows.FnExactFairBoundSaid := fnExactFairBound.proved
end Go.Proofs.Ytjkbpcbnfkangaa
