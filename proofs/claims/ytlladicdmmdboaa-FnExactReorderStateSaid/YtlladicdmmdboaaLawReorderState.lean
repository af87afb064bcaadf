-- by a program of this session (wip/ak/lw.py)
import Derived.Test.YtlladicdmmdboaaPureReorderState6
import Derived.Test.YtlladicdmmdboaaRows
import Derived.WalkKit
import Derived.ProofKit
import Derived.OpenShut
import Derived.ShutString
import Derived.ChangeOld
import Derived.Below
import Derived.SizedLaws
set_option linter.unusedVariables false
namespace Go.Proofs.Ytlladicdmmdboaa.fnExactReorderState
open Go Go.ChangeShapes Go.WideShapes Go.ChangeAt Go.RowKit Go.Proofs Go.AK
open Go.ChangeMaps (open_string shut_string)
theorem own : ownKnob Try.prog.godebug = none := by kernel_rfl
theorem laidOut : laidOutB Try.prog = true := by kernel_rfl
def good_T172 (x : S172) : Prop := ((Lit.int .i64 x.f0).wf = true) ∧ ((Lit.int .u64 x.f1).wf = true) ∧ (x.f2.length ≤ maxLen ∧ ∀ y0 ∈ x.f2, (Lit.int .u8 y0).wf = true) ∧ ((Lit.int .i64 x.f3).wf = true)
theorem opens_T172 : Opens Try.prog 172 c172 good_T172 := by
  intro H enc w fuel cs x h
  obtain ⟨ys, n, _, _, hlen, hyl, hf⟩ := DataW.trod_struct Try.underlying172 h
  have hl : cs.length = 4 := hlen.trans (by kernel_rfl)
  have hn : ys.length = 4 := hyl
  have q0 : DataW.trod enc Try.prog w 0 (fun _ => true) true n 2 ((cs.drop 0).take (Try.prog.cellsOf 2)) = ys[0]? := hf 0 _ rfl
  rw [show Try.prog.cellsOf 2 = 1 from by kernel_rfl, List.getElem?_eq_getElem (show 0 < ys.length by omega)] at q0
  obtain ⟨a0, k0, g0⟩ := (opens_int Try.underlying2) H enc w n _ _ q0
  have q1 : DataW.trod enc Try.prog w 0 (fun _ => true) true n 93 ((cs.drop 1).take (Try.prog.cellsOf 93)) = ys[1]? := hf 1 _ rfl
  rw [show Try.prog.cellsOf 93 = 1 from by kernel_rfl, List.getElem?_eq_getElem (show 1 < ys.length by omega)] at q1
  obtain ⟨a1, k1, g1⟩ := (opens_int Try.underlying93) H enc w n _ _ q1
  have q2 : DataW.trod enc Try.prog w 0 (fun _ => true) true n 22 ((cs.drop 2).take (Try.prog.cellsOf 22)) = ys[2]? := hf 2 _ rfl
  rw [show Try.prog.cellsOf 22 = 1 from by kernel_rfl, List.getElem?_eq_getElem (show 2 < ys.length by omega)] at q2
  obtain ⟨a2, k2, g2⟩ := (opens_slice (c := c_u8) (w := 1) Try.underlying22 c_u8_w (by kernel_rfl) (by decide) (opens_int Try.underlying5)) H enc w n _ _ q2
  have q3 : DataW.trod enc Try.prog w 0 (fun _ => true) true n 2 ((cs.drop 3).take (Try.prog.cellsOf 2)) = ys[3]? := hf 3 _ rfl
  rw [show Try.prog.cellsOf 2 = 1 from by kernel_rfl, List.getElem?_eq_getElem (show 3 < ys.length by omega)] at q3
  obtain ⟨a3, k3, g3⟩ := (opens_int Try.underlying2) H enc w n _ _ q3
  have e3 := cut_last cs 3 1 hl
  rw [e3] at k3
  have k2 := all2_append k2 k3
  rw [cut_cells cs 2 1] at k2
  have k1 := all2_append k1 k2
  rw [cut_cells cs 1 1] at k1
  have k0 := all2_append k0 k1
  rw [cut_cells cs 0 1] at k0
  exact ⟨⟨a0, a1, a2, a3⟩, (by (try simp at k0); exact k0), ⟨g0, g1, g2, g3⟩⟩
set_option maxRecDepth 100000 in
set_option maxHeartbeats 4000000 in
theorem lifted (os : Os) (started : os.Started) (H : Type) (enc : TypeId × Value → H) :
    ReturnsInHanded {} Try.checked os 11 .any (Rows.fnExactReorderStateSpec.pre6 enc Try.prog Try.f11 Rows.fnExactReorderStateRow.domain false) (Rows.fnExactReorderStateSpec.post enc Try.prog Try.f11 false true false false) := by
  refine returnsInHanded_of_change_sized (C := Try.checked) own started (by kernel_rfl) Try.func11
    (ChangeSpec.witness6 (enc := enc) (C := Try.checked) false ⟨#[], #[.int .u64 0, .int .i64 0, .slice none 0 0], []⟩ 8 (by kernel_rfl) (by kernel_rfl) (by kernel_rfl) (by kernel_rfl)) ?_
  intro W base args ds gs before hval0 hW hcnd hsz0 _
  have hval : ∀ (j : Nat) t v, Try.f11.params[j]? = some t → args[j]? = some v → Value.okWide Try.prog W .any base t v := hval0
  have hW' := hW
  obtain ⟨p, q, hA0, hV, rfl, hfz, hnd⟩ := hW
  have hA : DataW.TrodAll enc Try.prog W 0 (fun _ => true) true Try.f11.params.toList args.toList ds p := hA0
  rw [Try.params11] at hA hval
  obtain ⟨v0, vs0, d0, ds0, p0, q0, hargs, rfl, rfl, h0, r0⟩ := trodAll_cons hA
  obtain ⟨v1, vs1, d1, ds1, p1, q1, rfl, rfl, rfl, h1, r1⟩ := trodAll_cons r0
  obtain ⟨v2, vs2, d2, ds2, p2, q2, rfl, rfl, rfl, h2, r2⟩ := trodAll_cons r1
  obtain ⟨rfl, rfl, rfl⟩ := trodAll_nil r2
  obtain rfl : args = #[v0, v1, v2] := by cases args; simp_all
  obtain ⟨rfl, rfl⟩ := trodVars_none hV
  have k0 := h0
  have lt0 : ∀ x ∈ p0, x.block < W.heap.size := by obtain ⟨m, hm⟩ := k0; exact DataW.trod_lt m _ _ _ hm
  obtain ⟨fuel0, hf0⟩ := h0
  obtain ⟨a0, m0, hg0⟩ := (opens_int Try.underlying93) H enc W fuel0 _ _ hf0
  obtain ⟨a0', rfl⟩ := okWide_int Try.underlying93 (hval 0 93 v0 rfl rfl)
  obtain rfl : a0 = a0' := by obtain ⟨m, _⟩ := m0; cases m; rfl
  have k1 := h1
  have lt1 : ∀ x ∈ p1, x.block < W.heap.size := by obtain ⟨m, hm⟩ := k1; exact DataW.trod_lt m _ _ _ hm
  obtain ⟨fuel1, hf1⟩ := h1
  obtain ⟨a1, m1, hg1⟩ := (opens_int Try.underlying2) H enc W fuel1 _ _ hf1
  obtain ⟨a1', rfl⟩ := okWide_int Try.underlying2 (hval 1 2 v1 rfl rfl)
  obtain rfl : a1 = a1' := by obtain ⟨m, _⟩ := m1; cases m; rfl
  have k2 := h2
  have lt2 : ∀ x ∈ p2, x.block < W.heap.size := by obtain ⟨m, hm⟩ := k2; exact DataW.trod_lt m _ _ _ hm
  obtain ⟨A2, len2, c2, rfl⟩ := okWide_slice Try.underlying94 (hval 2 94 v2 rfl rfl)
  obtain ⟨fuel2, hf2⟩ := h2
  obtain ⟨l2, ⟨m2, _⟩, hg2⟩ := (opens_slice (c := c172) (w := 4) Try.underlying94 c172_w (by kernel_rfl) (by decide) opens_T172) H enc W fuel2 _ _ hf2
  obtain ⟨x0, G0, V0⟩ := arg_slice m2
  clear hA0 hval0 hsz0
  have hp := FnExactReorderState_pure a0 a1 l2 hg0 hg1 hg2.1 hg2.2
  have T := laws_FnExactReorderState.tri (encL c172 l2) 0 l2 (Vw.whole c172_w l2) a0 a1 _ hp
  have hl : Lies W (fun k => match k with | .arg 0 => x0 | _ => ⟨0, 0, 0⟩) [(.arg 0, ⟨.fz, 4, encL c172 l2⟩)] := ⟨⟨rfl, G0⟩, trivial⟩
  have R := Tri.reads T hl (vs := [.int .u64 a0, .int .i64 a1, .slice A2 len2 c2])
  have R2 := R ⟨⟨rfl, rfl⟩, ⟨rfl, rfl⟩, V0 _ _ _ rfl rfl, trivial⟩
  refine R2.mono fun e W' ⟨X', v, he, hv, bel0⟩ => ?_
  have bel : Below W.heap.size W W' := bel0
  obtain rfl : v = .bool true := hv.1
  subst he
  exact ⟨_, rfl, _, _, _, [], _, [], hW', trodAll_mk1 (shut_bool Try.underlying4 _), (trodAll_cons_mk (Below.trod laidOut (by kernel_rfl) (of_decide_eq_true (by kernel_rfl)) k0 bel lt0) (trodAll_cons_mk (Below.trod laidOut (by kernel_rfl) (of_decide_eq_true (by kernel_rfl)) k1 bel lt1) (trodAll_cons_mk (Below.trod laidOut (by kernel_rfl) (of_decide_eq_true (by kernel_rfl)) k2 bel lt2) trodAll_mk0))), rfl, bel.frame _, fun h => by cases h⟩
theorem over : Rows.fnExactReorderStateRow.holds Try.pinned (OpenSpec.ofChange Rows.fnExactReorderStateSpec) :=
  OpenClaim.holds_of_wide 11 Try.f11 rfl rfl rfl rfl rfl rfl rfl ⟨rfl, rfl, rfl, rfl, rfl⟩ rfl rfl rfl rfl rfl (by kernel_rfl) Try.func11 (by kernel_rfl)
    (of_decide_eq_true (by kernel_rfl)) (by unfold Func.isWrapper; first | (rw [if_pos (by decide +kernel)]; kernel_rfl) | (rw [if_neg (by decide +kernel)]; exact ⟨rfl, rfl⟩))
    (fun os started H enc _ => lifted os started H enc)
theorem proved : Rows.FnExactReorderStateSaid := over
#print axioms proved
end Go.Proofs.Ytlladicdmmdboaa.fnExactReorderState
namespace Go.Proofs.Ytlladicdmmdboaa
/-- The row, under a short name, for the claim. -/
theorem fnExactReorderState_holds : Rows.FnExactReorderStateSaid := fnExactReorderState.proved
end Go.Proofs.Ytlladicdmmdboaa
