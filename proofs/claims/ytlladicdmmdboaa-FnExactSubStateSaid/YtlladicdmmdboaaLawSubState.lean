-- by a program of this session (wip/ak/lw.py)
import Derived.Test.YtlladicdmmdboaaPureSubState3
import Derived.Test.YtlladicdmmdboaaRows
import Derived.WalkKit
import Derived.ProofKit
import Derived.OpenShut
import Derived.ShutString
import Derived.ChangeOld
import Derived.Below
import Derived.SizedLaws
set_option linter.unusedVariables false
namespace Go.AK
open Go
structure S81 where
  f0 : Int
  f1 : Int
  f2 : Int
  f3 : Int
  f4 : Int
  f5 : Int
def z81 : S81 := ⟨0, 0, 0, 0, 0, 0⟩
theorem S81.eta (x : S81) : (⟨x.f0, x.f1, x.f2, x.f3, x.f4, x.f5⟩ : S81) = x := rfl
def c81 (x : S81) : List Cell := [.sc (.int .u32 x.f0), .sc (.int .i64 x.f1), .sc (.int .i64 x.f2), .sc (.int .i64 x.f3), .sc (.int .i64 x.f4), .sc (.int .i64 x.f5)]
theorem c81_w (x : S81) : (c81 x).length = 6 := rfl
end Go.AK
namespace Go.Proofs.Ytlladicdmmdboaa.fnExactSubState
open Go Go.ChangeShapes Go.WideShapes Go.ChangeAt Go.RowKit Go.Proofs Go.AK
open Go.ChangeMaps (open_string shut_string)
theorem own : ownKnob Try.prog.godebug = none := by kernel_rfl
theorem laidOut : laidOutB Try.prog = true := by kernel_rfl
def good_T81 (x : S81) : Prop := ((Lit.int .u32 x.f0).wf = true) ∧ ((Lit.int .i64 x.f1).wf = true) ∧ ((Lit.int .i64 x.f2).wf = true) ∧ ((Lit.int .i64 x.f3).wf = true) ∧ ((Lit.int .i64 x.f4).wf = true) ∧ ((Lit.int .i64 x.f5).wf = true)
theorem opens_T81 : Opens Try.prog 81 c81 good_T81 := by
  intro H enc w fuel cs x h
  obtain ⟨ys, n, _, _, hlen, hyl, hf⟩ := DataW.trod_struct Try.underlying81 h
  have hl : cs.length = 6 := hlen.trans (by kernel_rfl)
  have hn : ys.length = 6 := hyl
  have q0 : DataW.trod enc Try.prog w 0 (fun _ => true) true n 53 ((cs.drop 0).take (Try.prog.cellsOf 53)) = ys[0]? := hf 0 _ rfl
  rw [show Try.prog.cellsOf 53 = 1 from by kernel_rfl, List.getElem?_eq_getElem (show 0 < ys.length by omega)] at q0
  obtain ⟨a0, k0, g0⟩ := (opens_int Try.underlying53) H enc w n _ _ q0
  have q1 : DataW.trod enc Try.prog w 0 (fun _ => true) true n 2 ((cs.drop 1).take (Try.prog.cellsOf 2)) = ys[1]? := hf 1 _ rfl
  rw [show Try.prog.cellsOf 2 = 1 from by kernel_rfl, List.getElem?_eq_getElem (show 1 < ys.length by omega)] at q1
  obtain ⟨a1, k1, g1⟩ := (opens_int Try.underlying2) H enc w n _ _ q1
  have q2 : DataW.trod enc Try.prog w 0 (fun _ => true) true n 2 ((cs.drop 2).take (Try.prog.cellsOf 2)) = ys[2]? := hf 2 _ rfl
  rw [show Try.prog.cellsOf 2 = 1 from by kernel_rfl, List.getElem?_eq_getElem (show 2 < ys.length by omega)] at q2
  obtain ⟨a2, k2, g2⟩ := (opens_int Try.underlying2) H enc w n _ _ q2
  have q3 : DataW.trod enc Try.prog w 0 (fun _ => true) true n 2 ((cs.drop 3).take (Try.prog.cellsOf 2)) = ys[3]? := hf 3 _ rfl
  rw [show Try.prog.cellsOf 2 = 1 from by kernel_rfl, List.getElem?_eq_getElem (show 3 < ys.length by omega)] at q3
  obtain ⟨a3, k3, g3⟩ := (opens_int Try.underlying2) H enc w n _ _ q3
  have q4 : DataW.trod enc Try.prog w 0 (fun _ => true) true n 2 ((cs.drop 4).take (Try.prog.cellsOf 2)) = ys[4]? := hf 4 _ rfl
  rw [show Try.prog.cellsOf 2 = 1 from by kernel_rfl, List.getElem?_eq_getElem (show 4 < ys.length by omega)] at q4
  obtain ⟨a4, k4, g4⟩ := (opens_int Try.underlying2) H enc w n _ _ q4
  have q5 : DataW.trod enc Try.prog w 0 (fun _ => true) true n 2 ((cs.drop 5).take (Try.prog.cellsOf 2)) = ys[5]? := hf 5 _ rfl
  rw [show Try.prog.cellsOf 2 = 1 from by kernel_rfl, List.getElem?_eq_getElem (show 5 < ys.length by omega)] at q5
  obtain ⟨a5, k5, g5⟩ := (opens_int Try.underlying2) H enc w n _ _ q5
  have e5 := cut_last cs 5 1 hl
  rw [e5] at k5
  have k4 := all2_append k4 k5
  rw [cut_cells cs 4 1] at k4
  have k3 := all2_append k3 k4
  rw [cut_cells cs 3 1] at k3
  have k2 := all2_append k2 k3
  rw [cut_cells cs 2 1] at k2
  have k1 := all2_append k1 k2
  rw [cut_cells cs 1 1] at k1
  have k0 := all2_append k0 k1
  rw [cut_cells cs 0 1] at k0
  exact ⟨⟨a0, a1, a2, a3, a4, a5⟩, (by (try simp at k0); exact k0), ⟨g0, g1, g2, g3, g4, g5⟩⟩
def good_T164 (x : S164) : Prop := ((Lit.int .i64 x.f0).wf = true) ∧ ((Lit.int .i64 x.f1).wf = true) ∧ ((Lit.int .u32 x.f2).wf = true)
theorem opens_T164 : Opens Try.prog 164 c164 good_T164 := by
  intro H enc w fuel cs x h
  obtain ⟨ys, n, _, _, hlen, hyl, hf⟩ := DataW.trod_struct Try.underlying164 h
  have hl : cs.length = 3 := hlen.trans (by kernel_rfl)
  have hn : ys.length = 3 := hyl
  have q0 : DataW.trod enc Try.prog w 0 (fun _ => true) true n 2 ((cs.drop 0).take (Try.prog.cellsOf 2)) = ys[0]? := hf 0 _ rfl
  rw [show Try.prog.cellsOf 2 = 1 from by kernel_rfl, List.getElem?_eq_getElem (show 0 < ys.length by omega)] at q0
  obtain ⟨a0, k0, g0⟩ := (opens_int Try.underlying2) H enc w n _ _ q0
  have q1 : DataW.trod enc Try.prog w 0 (fun _ => true) true n 2 ((cs.drop 1).take (Try.prog.cellsOf 2)) = ys[1]? := hf 1 _ rfl
  rw [show Try.prog.cellsOf 2 = 1 from by kernel_rfl, List.getElem?_eq_getElem (show 1 < ys.length by omega)] at q1
  obtain ⟨a1, k1, g1⟩ := (opens_int Try.underlying2) H enc w n _ _ q1
  have q2 : DataW.trod enc Try.prog w 0 (fun _ => true) true n 53 ((cs.drop 2).take (Try.prog.cellsOf 53)) = ys[2]? := hf 2 _ rfl
  rw [show Try.prog.cellsOf 53 = 1 from by kernel_rfl, List.getElem?_eq_getElem (show 2 < ys.length by omega)] at q2
  obtain ⟨a2, k2, g2⟩ := (opens_int Try.underlying53) H enc w n _ _ q2
  have e2 := cut_last cs 2 1 hl
  rw [e2] at k2
  have k1 := all2_append k1 k2
  rw [cut_cells cs 1 1] at k1
  have k0 := all2_append k0 k1
  rw [cut_cells cs 0 1] at k0
  exact ⟨⟨a0, a1, a2⟩, (by (try simp at k0); exact k0), ⟨g0, g1, g2⟩⟩
set_option maxRecDepth 100000 in
set_option maxHeartbeats 4000000 in
theorem lifted (os : Os) (started : os.Started) (H : Type) (enc : TypeId × Value → H) :
    ReturnsInHanded {} Try.checked os 9 .any (Rows.fnExactSubStateSpec.pre6 enc Try.prog Try.f9 Rows.fnExactSubStateRow.domain false) (Rows.fnExactSubStateSpec.post enc Try.prog Try.f9 false true false false) := by
  refine returnsInHanded_of_change_sized (C := Try.checked) own started (by kernel_rfl) Try.func9
    (ChangeSpec.witness6 (enc := enc) (C := Try.checked) false ⟨#[], #[.agg #[(.int .u32 0), (.int .i64 0), (.int .i64 0), (.int .i64 0), (.int .i64 0), (.int .i64 0)], .slice none 0 0], []⟩ 8 (by kernel_rfl) (by kernel_rfl) (by kernel_rfl) (by kernel_rfl)) ?_
  intro W base args ds gs before hval0 hW hcnd hsz0 _
  have hval : ∀ (j : Nat) t v, Try.f9.params[j]? = some t → args[j]? = some v → Value.okWide Try.prog W .any base t v := hval0
  have hW' := hW
  obtain ⟨p, q, hA0, hV, rfl, hfz, hnd⟩ := hW
  have hA : DataW.TrodAll enc Try.prog W 0 (fun _ => true) true Try.f9.params.toList args.toList ds p := hA0
  rw [Try.params9] at hA hval
  obtain ⟨v0, vs0, d0, ds0, p0, q0, hargs, rfl, rfl, h0, r0⟩ := trodAll_cons hA
  obtain ⟨v1, vs1, d1, ds1, p1, q1, rfl, rfl, rfl, h1, r1⟩ := trodAll_cons r0
  obtain ⟨rfl, rfl, rfl⟩ := trodAll_nil r1
  obtain rfl : args = #[v0, v1] := by cases args; simp_all
  obtain ⟨rfl, rfl⟩ := trodVars_none hV
  have k0 := h0
  have lt0 : ∀ x ∈ p0, x.block < W.heap.size := by obtain ⟨m, hm⟩ := k0; exact DataW.trod_lt m _ _ _ hm
  obtain ⟨cs0, rfl, hz0⟩ := okWide_struct Try.underlying81 (hval 0 81 v0 rfl rfl)
  obtain ⟨fuel0, hf0⟩ := h0
  obtain ⟨a0, m0, hg0⟩ := opens_T81 H enc W fuel0 _ _ hf0
  obtain ⟨es0, he0⟩ : ∃ es : List Value, cs0 = es.toArray := ⟨cs0.toList, by simp⟩
  subst he0
  simp only [Value.cells, List.toList_toArray] at m0
  simp only [c81] at m0
  obtain ⟨v0_0, es0_0, rfl, n0_0, s0_0⟩ := all2_cons_inv m0
  obtain ⟨rfl, _⟩ := MC_sc n0_0
  obtain ⟨v0_1, es0_1, rfl, n0_1, s0_1⟩ := all2_cons_inv s0_0
  obtain ⟨rfl, _⟩ := MC_sc n0_1
  obtain ⟨v0_2, es0_2, rfl, n0_2, s0_2⟩ := all2_cons_inv s0_1
  obtain ⟨rfl, _⟩ := MC_sc n0_2
  obtain ⟨v0_3, es0_3, rfl, n0_3, s0_3⟩ := all2_cons_inv s0_2
  obtain ⟨rfl, _⟩ := MC_sc n0_3
  obtain ⟨v0_4, es0_4, rfl, n0_4, s0_4⟩ := all2_cons_inv s0_3
  obtain ⟨rfl, _⟩ := MC_sc n0_4
  obtain ⟨v0_5, es0_5, rfl, n0_5, s0_5⟩ := all2_cons_inv s0_4
  obtain ⟨rfl, _⟩ := MC_sc n0_5
  obtain rfl := all2_nil_inv s0_5
  have k1 := h1
  have lt1 : ∀ x ∈ p1, x.block < W.heap.size := by obtain ⟨m, hm⟩ := k1; exact DataW.trod_lt m _ _ _ hm
  obtain ⟨A1, len1, c1, rfl⟩ := okWide_slice Try.underlying82 (hval 1 82 v1 rfl rfl)
  obtain ⟨fuel1, hf1⟩ := h1
  obtain ⟨l1, ⟨m1, _⟩, hg1⟩ := (opens_slice (c := c164) (w := 3) Try.underlying82 c164_w (by kernel_rfl) (by decide) opens_T164) H enc W fuel1 _ _ hf1
  obtain ⟨x0, G0, V0⟩ := arg_slice m1
  clear hA0 hval0 hsz0
  have hp := FnExactSubState_pure a0.f0 a0.f1 a0.f2 a0.f3 a0.f4 a0.f5 l1 hg0 hg1.1 hg1.2
  have T := laws_FnExactSubState.tri (encL c164 l1) 0 l1 (Vw.whole c164_w l1) a0.f0 a0.f1 a0.f2 a0.f3 a0.f4 a0.f5 _ hp
  have hl : Lies W (fun k => match k with | .arg 0 => x0 | _ => ⟨0, 0, 0⟩) [(.arg 0, ⟨.fz, 3, encL c164 l1⟩)] := ⟨⟨rfl, G0⟩, trivial⟩
  have R := Tri.reads T hl (vs := [.agg [.int .u32 a0.f0, .int .i64 a0.f1, .int .i64 a0.f2, .int .i64 a0.f3, .int .i64 a0.f4, .int .i64 a0.f5].toArray, .slice A1 len1 c1])
  have R2 := R ⟨⟨[.int .u32 a0.f0, .int .i64 a0.f1, .int .i64 a0.f2, .int .i64 a0.f3, .int .i64 a0.f4, .int .i64 a0.f5], rfl, ⟨⟨rfl, rfl⟩, ⟨rfl, rfl⟩, ⟨rfl, rfl⟩, ⟨rfl, rfl⟩, ⟨rfl, rfl⟩, ⟨rfl, rfl⟩, trivial⟩⟩, V0 _ _ _ rfl rfl, trivial⟩
  refine R2.mono fun e W' ⟨X', v, he, hv, bel0⟩ => ?_
  have bel : Below W.heap.size W W' := bel0
  obtain rfl : v = .bool true := hv.1
  subst he
  exact ⟨_, rfl, _, _, _, [], _, [], hW', trodAll_mk1 (shut_bool Try.underlying4 _), (trodAll_cons_mk (Below.trod laidOut (by kernel_rfl) (of_decide_eq_true (by kernel_rfl)) k0 bel lt0) (trodAll_cons_mk (Below.trod laidOut (by kernel_rfl) (of_decide_eq_true (by kernel_rfl)) k1 bel lt1) trodAll_mk0)), rfl, bel.frame _, fun h => by cases h⟩
theorem over : Rows.fnExactSubStateRow.holds Try.pinned (OpenSpec.ofChange Rows.fnExactSubStateSpec) :=
  OpenClaim.holds_of_wide 9 Try.f9 rfl rfl rfl rfl rfl rfl rfl ⟨rfl, rfl, rfl, rfl, rfl⟩ rfl rfl rfl rfl rfl (by kernel_rfl) Try.func9 (by kernel_rfl)
    (of_decide_eq_true (by kernel_rfl)) (by unfold Func.isWrapper; first | (rw [if_pos (by decide +kernel)]; kernel_rfl) | (rw [if_neg (by decide +kernel)]; exact ⟨rfl, rfl⟩))
    (fun os started H enc _ => lifted os started H enc)
theorem proved : Rows.FnExactSubStateSaid := over
#print axioms proved
end Go.Proofs.Ytlladicdmmdboaa.fnExactSubState
namespace Go.Proofs.Ytlladicdmmdboaa
/-- The row, under a short name, for the claim. -/
theorem fnExactSubState_holds : Rows.FnExactSubStateSaid := fnExactSubState.proved
end Go.Proofs.Ytlladicdmmdboaa
