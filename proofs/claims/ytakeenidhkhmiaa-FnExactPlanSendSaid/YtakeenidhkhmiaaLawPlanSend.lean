-- by a program of this session (wip/ak/lw.py)
import Derived.Test.YtakeenidhkhmiaaPurePlanSend3
import Derived.Test.YtakeenidhkhmiaaRows
import Derived.WalkKit
import Derived.ProofKit
import Derived.OpenShut
import Derived.ShutString
import Derived.ChangeOld
import Derived.Below
import Derived.SizedLaws
set_option linter.unusedVariables false
namespace Go.AK
open Go
structure S68 where
  f0 : Int
  f1 : Int
  f2 : (List Int)
  f3 : (List S117)
  f4 : (List S109)
  f5 : Int
  f6 : Int
  f7 : Int
  f8 : Int
  f9 : Int
  f10 : Int
  f11 : Int
def z68 : S68 := ⟨0, 0, ([] : (List Int)), ([] : (List S117)), ([] : (List S109)), 0, 0, 0, 0, 0, 0, 0⟩
theorem S68.eta (x : S68) : (⟨x.f0, x.f1, x.f2, x.f3, x.f4, x.f5, x.f6, x.f7, x.f8, x.f9, x.f10, x.f11⟩ : S68) = x := rfl
def c68 (x : S68) : List Cell := [.sc (.int .i64 x.f0), .sc (.int .i64 x.f1), .own 1 x.f2.length (encL c_i64 x.f2), .own 3 x.f3.length (encL c117 x.f3), .own 5 x.f4.length (encL c109 x.f4), .sc (.int .i64 x.f5), .sc (.int .u64 x.f6), .sc (.int .u64 x.f7), .sc (.int .u64 x.f8), .sc (.int .i64 x.f9), .sc (.int .i64 x.f10), .sc (.int .i64 x.f11)]
theorem c68_w (x : S68) : (c68 x).length = 12 := rfl
end Go.AK
namespace Go.Proofs.Ytakeenidhkhmiaa.fnExactPlanSend
open Go Go.ChangeShapes Go.WideShapes Go.ChangeAt Go.RowKit Go.Proofs Go.AK
open Go.ChangeMaps (open_string shut_string)
theorem own : ownKnob Try.prog.godebug = none := by kernel_rfl
theorem laidOut : laidOutB Try.prog = true := by kernel_rfl
def good_T117 (x : S117) : Prop := ((Lit.int .i64 x.f0).wf = true) ∧ ((Lit.int .i64 x.f1).wf = true) ∧ ((Lit.int .i64 x.f2).wf = true)
theorem opens_T117 : Opens Try.prog 117 c117 good_T117 := by
  intro H enc w fuel cs x h
  obtain ⟨ys, n, _, _, hlen, hyl, hf⟩ := DataW.trod_struct Try.underlying117 h
  have hl : cs.length = 3 := hlen.trans (by kernel_rfl)
  have hn : ys.length = 3 := hyl
  have q0 : DataW.trod enc Try.prog w 0 (fun _ => true) true n 2 ((cs.drop 0).take (Try.prog.cellsOf 2)) = ys[0]? := hf 0 _ rfl
  rw [show Try.prog.cellsOf 2 = 1 from by kernel_rfl, List.getElem?_eq_getElem (show 0 < ys.length by omega)] at q0
  obtain ⟨a0, k0, g0⟩ := (opens_int Try.underlying2) H enc w n _ _ q0
  have q1 : DataW.trod enc Try.prog w 0 (fun _ => true) true n 2 ((cs.drop 1).take (Try.prog.cellsOf 2)) = ys[1]? := hf 1 _ rfl
  rw [show Try.prog.cellsOf 2 = 1 from by kernel_rfl, List.getElem?_eq_getElem (show 1 < ys.length by omega)] at q1
  obtain ⟨a1, k1, g1⟩ := (opens_int Try.underlying2) H enc w n _ _ q1
  have q2 : DataW.trod enc Try.prog w 0 (fun _ => true) true n 2 ((cs.drop 2).take (Try.prog.cellsOf 2)) = ys[2]? := hf 2 _ rfl
  rw [show Try.prog.cellsOf 2 = 1 from by kernel_rfl, List.getElem?_eq_getElem (show 2 < ys.length by omega)] at q2
  obtain ⟨a2, k2, g2⟩ := (opens_int Try.underlying2) H enc w n _ _ q2
  have e2 := cut_last cs 2 1 hl
  rw [e2] at k2
  have k1 := all2_append k1 k2
  rw [cut_cells cs 1 1] at k1
  have k0 := all2_append k0 k1
  rw [cut_cells cs 0 1] at k0
  exact ⟨⟨a0, a1, a2⟩, (by (try simp at k0); exact k0), ⟨g0, g1, g2⟩⟩
def good_T109 (x : S109) : Prop := ((Lit.int .u64 x.f0).wf = true) ∧ ((Lit.int .i64 x.f1).wf = true) ∧ ((Lit.int .i64 x.f2).wf = true) ∧ ((Lit.int .i64 x.f3).wf = true) ∧ ((Lit.int .i64 x.f4).wf = true)
theorem opens_T109 : Opens Try.prog 109 c109 good_T109 := by
  intro H enc w fuel cs x h
  obtain ⟨ys, n, _, _, hlen, hyl, hf⟩ := DataW.trod_struct Try.underlying109 h
  have hl : cs.length = 5 := hlen.trans (by kernel_rfl)
  have hn : ys.length = 5 := hyl
  have q0 : DataW.trod enc Try.prog w 0 (fun _ => true) true n 23 ((cs.drop 0).take (Try.prog.cellsOf 23)) = ys[0]? := hf 0 _ rfl
  rw [show Try.prog.cellsOf 23 = 1 from by kernel_rfl, List.getElem?_eq_getElem (show 0 < ys.length by omega)] at q0
  obtain ⟨a0, k0, g0⟩ := (opens_int Try.underlying23) H enc w n _ _ q0
  have q1 : DataW.trod enc Try.prog w 0 (fun _ => true) true n 2 ((cs.drop 1).take (Try.prog.cellsOf 2)) = ys[1]? := hf 1 _ rfl
  rw [show Try.prog.cellsOf 2 = 1 from by kernel_rfl, List.getElem?_eq_getElem (show 1 < ys.length by omega)] at q1
  obtain ⟨a1, k1, g1⟩ := (opens_int Try.underlying2) H enc w n _ _ q1
  have q2 : DataW.trod enc Try.prog w 0 (fun _ => true) true n 2 ((cs.drop 2).take (Try.prog.cellsOf 2)) = ys[2]? := hf 2 _ rfl
  rw [show Try.prog.cellsOf 2 = 1 from by kernel_rfl, List.getElem?_eq_getElem (show 2 < ys.length by omega)] at q2
  obtain ⟨a2, k2, g2⟩ := (opens_int Try.underlying2) H enc w n _ _ q2
  have q3 : DataW.trod enc Try.prog w 0 (fun _ => true) true n 2 ((cs.drop 3).take (Try.prog.cellsOf 2)) = ys[3]? := hf 3 _ rfl
  rw [show Try.prog.cellsOf 2 = 1 from by kernel_rfl, List.getElem?_eq_getElem (show 3 < ys.length by omega)] at q3
  obtain ⟨a3, k3, g3⟩ := (opens_int Try.underlying2) H enc w n _ _ q3
  have q4 : DataW.trod enc Try.prog w 0 (fun _ => true) true n 2 ((cs.drop 4).take (Try.prog.cellsOf 2)) = ys[4]? := hf 4 _ rfl
  rw [show Try.prog.cellsOf 2 = 1 from by kernel_rfl, List.getElem?_eq_getElem (show 4 < ys.length by omega)] at q4
  obtain ⟨a4, k4, g4⟩ := (opens_int Try.underlying2) H enc w n _ _ q4
  have e4 := cut_last cs 4 1 hl
  rw [e4] at k4
  have k3 := all2_append k3 k4
  rw [cut_cells cs 3 1] at k3
  have k2 := all2_append k2 k3
  rw [cut_cells cs 2 1] at k2
  have k1 := all2_append k1 k2
  rw [cut_cells cs 1 1] at k1
  have k0 := all2_append k0 k1
  rw [cut_cells cs 0 1] at k0
  exact ⟨⟨a0, a1, a2, a3, a4⟩, (by (try simp at k0); exact k0), ⟨g0, g1, g2, g3, g4⟩⟩
def good_T68 (x : S68) : Prop := ((Lit.int .i64 x.f0).wf = true) ∧ ((Lit.int .i64 x.f1).wf = true) ∧ (x.f2.length ≤ maxLen ∧ ∀ y0 ∈ x.f2, (Lit.int .i64 y0).wf = true) ∧ (x.f3.length ≤ maxLen ∧ ∀ y0 ∈ x.f3, good_T117 y0) ∧ (x.f4.length ≤ maxLen ∧ ∀ y0 ∈ x.f4, good_T109 y0) ∧ ((Lit.int .i64 x.f5).wf = true) ∧ ((Lit.int .u64 x.f6).wf = true) ∧ ((Lit.int .u64 x.f7).wf = true) ∧ ((Lit.int .u64 x.f8).wf = true) ∧ ((Lit.int .i64 x.f9).wf = true) ∧ ((Lit.int .i64 x.f10).wf = true) ∧ ((Lit.int .i64 x.f11).wf = true)
theorem opens_T68 : Opens Try.prog 68 c68 good_T68 := by
  intro H enc w fuel cs x h
  obtain ⟨ys, n, _, _, hlen, hyl, hf⟩ := DataW.trod_struct Try.underlying68 h
  have hl : cs.length = 12 := hlen.trans (by kernel_rfl)
  have hn : ys.length = 12 := hyl
  have q0 : DataW.trod enc Try.prog w 0 (fun _ => true) true n 2 ((cs.drop 0).take (Try.prog.cellsOf 2)) = ys[0]? := hf 0 _ rfl
  rw [show Try.prog.cellsOf 2 = 1 from by kernel_rfl, List.getElem?_eq_getElem (show 0 < ys.length by omega)] at q0
  obtain ⟨a0, k0, g0⟩ := (opens_int Try.underlying2) H enc w n _ _ q0
  have q1 : DataW.trod enc Try.prog w 0 (fun _ => true) true n 2 ((cs.drop 1).take (Try.prog.cellsOf 2)) = ys[1]? := hf 1 _ rfl
  rw [show Try.prog.cellsOf 2 = 1 from by kernel_rfl, List.getElem?_eq_getElem (show 1 < ys.length by omega)] at q1
  obtain ⟨a1, k1, g1⟩ := (opens_int Try.underlying2) H enc w n _ _ q1
  have q2 : DataW.trod enc Try.prog w 0 (fun _ => true) true n 57 ((cs.drop 2).take (Try.prog.cellsOf 57)) = ys[2]? := hf 2 _ rfl
  rw [show Try.prog.cellsOf 57 = 1 from by kernel_rfl, List.getElem?_eq_getElem (show 2 < ys.length by omega)] at q2
  obtain ⟨a2, k2, g2⟩ := (opens_slice (c := c_i64) (w := 1) Try.underlying57 c_i64_w (by kernel_rfl) (by decide) (opens_int Try.underlying2)) H enc w n _ _ q2
  have q3 : DataW.trod enc Try.prog w 0 (fun _ => true) true n 55 ((cs.drop 3).take (Try.prog.cellsOf 55)) = ys[3]? := hf 3 _ rfl
  rw [show Try.prog.cellsOf 55 = 1 from by kernel_rfl, List.getElem?_eq_getElem (show 3 < ys.length by omega)] at q3
  obtain ⟨a3, k3, g3⟩ := (opens_slice (c := c117) (w := 3) Try.underlying55 c117_w (by kernel_rfl) (by decide) opens_T117) H enc w n _ _ q3
  have q4 : DataW.trod enc Try.prog w 0 (fun _ => true) true n 44 ((cs.drop 4).take (Try.prog.cellsOf 44)) = ys[4]? := hf 4 _ rfl
  rw [show Try.prog.cellsOf 44 = 1 from by kernel_rfl, List.getElem?_eq_getElem (show 4 < ys.length by omega)] at q4
  obtain ⟨a4, k4, g4⟩ := (opens_slice (c := c109) (w := 5) Try.underlying44 c109_w (by kernel_rfl) (by decide) opens_T109) H enc w n _ _ q4
  have q5 : DataW.trod enc Try.prog w 0 (fun _ => true) true n 2 ((cs.drop 5).take (Try.prog.cellsOf 2)) = ys[5]? := hf 5 _ rfl
  rw [show Try.prog.cellsOf 2 = 1 from by kernel_rfl, List.getElem?_eq_getElem (show 5 < ys.length by omega)] at q5
  obtain ⟨a5, k5, g5⟩ := (opens_int Try.underlying2) H enc w n _ _ q5
  have q6 : DataW.trod enc Try.prog w 0 (fun _ => true) true n 23 ((cs.drop 6).take (Try.prog.cellsOf 23)) = ys[6]? := hf 6 _ rfl
  rw [show Try.prog.cellsOf 23 = 1 from by kernel_rfl, List.getElem?_eq_getElem (show 6 < ys.length by omega)] at q6
  obtain ⟨a6, k6, g6⟩ := (opens_int Try.underlying23) H enc w n _ _ q6
  have q7 : DataW.trod enc Try.prog w 0 (fun _ => true) true n 23 ((cs.drop 7).take (Try.prog.cellsOf 23)) = ys[7]? := hf 7 _ rfl
  rw [show Try.prog.cellsOf 23 = 1 from by kernel_rfl, List.getElem?_eq_getElem (show 7 < ys.length by omega)] at q7
  obtain ⟨a7, k7, g7⟩ := (opens_int Try.underlying23) H enc w n _ _ q7
  have q8 : DataW.trod enc Try.prog w 0 (fun _ => true) true n 23 ((cs.drop 8).take (Try.prog.cellsOf 23)) = ys[8]? := hf 8 _ rfl
  rw [show Try.prog.cellsOf 23 = 1 from by kernel_rfl, List.getElem?_eq_getElem (show 8 < ys.length by omega)] at q8
  obtain ⟨a8, k8, g8⟩ := (opens_int Try.underlying23) H enc w n _ _ q8
  have q9 : DataW.trod enc Try.prog w 0 (fun _ => true) true n 2 ((cs.drop 9).take (Try.prog.cellsOf 2)) = ys[9]? := hf 9 _ rfl
  rw [show Try.prog.cellsOf 2 = 1 from by kernel_rfl, List.getElem?_eq_getElem (show 9 < ys.length by omega)] at q9
  obtain ⟨a9, k9, g9⟩ := (opens_int Try.underlying2) H enc w n _ _ q9
  have q10 : DataW.trod enc Try.prog w 0 (fun _ => true) true n 2 ((cs.drop 10).take (Try.prog.cellsOf 2)) = ys[10]? := hf 10 _ rfl
  rw [show Try.prog.cellsOf 2 = 1 from by kernel_rfl, List.getElem?_eq_getElem (show 10 < ys.length by omega)] at q10
  obtain ⟨a10, k10, g10⟩ := (opens_int Try.underlying2) H enc w n _ _ q10
  have q11 : DataW.trod enc Try.prog w 0 (fun _ => true) true n 2 ((cs.drop 11).take (Try.prog.cellsOf 2)) = ys[11]? := hf 11 _ rfl
  rw [show Try.prog.cellsOf 2 = 1 from by kernel_rfl, List.getElem?_eq_getElem (show 11 < ys.length by omega)] at q11
  obtain ⟨a11, k11, g11⟩ := (opens_int Try.underlying2) H enc w n _ _ q11
  have e11 := cut_last cs 11 1 hl
  rw [e11] at k11
  have k10 := all2_append k10 k11
  rw [cut_cells cs 10 1] at k10
  have k9 := all2_append k9 k10
  rw [cut_cells cs 9 1] at k9
  have k8 := all2_append k8 k9
  rw [cut_cells cs 8 1] at k8
  have k7 := all2_append k7 k8
  rw [cut_cells cs 7 1] at k7
  have k6 := all2_append k6 k7
  rw [cut_cells cs 6 1] at k6
  have k5 := all2_append k5 k6
  rw [cut_cells cs 5 1] at k5
  have k4 := all2_append k4 k5
  rw [cut_cells cs 4 1] at k4
  have k3 := all2_append k3 k4
  rw [cut_cells cs 3 1] at k3
  have k2 := all2_append k2 k3
  rw [cut_cells cs 2 1] at k2
  have k1 := all2_append k1 k2
  rw [cut_cells cs 1 1] at k1
  have k0 := all2_append k0 k1
  rw [cut_cells cs 0 1] at k0
  exact ⟨⟨a0, a1, a2, a3, a4, a5, a6, a7, a8, a9, a10, a11⟩, (by (try simp at k0); exact k0), ⟨g0, g1, g2, g3, g4, g5, g6, g7, g8, g9, g10, g11⟩⟩
set_option maxRecDepth 100000 in
set_option maxHeartbeats 4000000 in
theorem lifted (os : Os) (started : os.Started) (H : Type) (enc : TypeId × Value → H) :
    ReturnsInHanded {} Try.checked os 8 .any (Rows.fnExactPlanSendSpec.pre6 enc Try.prog Try.f8 Rows.fnExactPlanSendRow.domain false) (Rows.fnExactPlanSendSpec.post enc Try.prog Try.f8 false true false false) := by
  refine returnsInHanded_of_change_sized (C := Try.checked) own started (by kernel_rfl) Try.func8
    (ChangeSpec.witness6 (enc := enc) (C := Try.checked) false ⟨#[], #[.agg #[(.int .i64 0), (.int .i64 0), (.slice none 0 0), (.slice none 0 0), (.slice none 0 0), (.int .i64 0), (.int .u64 0), (.int .u64 0), (.int .u64 0), (.int .i64 0), (.int .i64 0), (.int .i64 0)]], []⟩ 8 (by kernel_rfl) (by kernel_rfl) (by kernel_rfl) (by kernel_rfl)) ?_
  intro W base args ds gs before hval0 hW hcnd hsz0 _
  have hval : ∀ (j : Nat) t v, Try.f8.params[j]? = some t → args[j]? = some v → Value.okWide Try.prog W .any base t v := hval0
  have hW' := hW
  obtain ⟨p, q, hA0, hV, rfl, hfz, hnd⟩ := hW
  have hA : DataW.TrodAll enc Try.prog W 0 (fun _ => true) true Try.f8.params.toList args.toList ds p := hA0
  rw [Try.params8] at hA hval
  obtain ⟨v0, vs0, d0, ds0, p0, q0, hargs, rfl, rfl, h0, r0⟩ := trodAll_cons hA
  obtain ⟨rfl, rfl, rfl⟩ := trodAll_nil r0
  obtain rfl : args = #[v0] := by cases args; simp_all
  obtain ⟨rfl, rfl⟩ := trodVars_none hV
  have k0 := h0
  have lt0 : ∀ x ∈ p0, x.block < W.heap.size := by obtain ⟨m, hm⟩ := k0; exact DataW.trod_lt m _ _ _ hm
  obtain ⟨cs0, rfl, hz0⟩ := okWide_struct Try.underlying68 (hval 0 68 v0 rfl rfl)
  obtain ⟨fuel0, hf0⟩ := h0
  obtain ⟨a0, m0, hg0⟩ := opens_T68 H enc W fuel0 _ _ hf0
  obtain ⟨es0, he0⟩ : ∃ es : List Value, cs0 = es.toArray := ⟨cs0.toList, by simp⟩
  subst he0
  simp only [Value.cells, List.toList_toArray] at m0
  simp only [c68] at m0
  obtain ⟨v0_0, es0_0, rfl, n0_0, s0_0⟩ := all2_cons_inv m0
  obtain ⟨rfl, _⟩ := MC_sc n0_0
  obtain ⟨v0_1, es0_1, rfl, n0_1, s0_1⟩ := all2_cons_inv s0_0
  obtain ⟨rfl, _⟩ := MC_sc n0_1
  obtain ⟨v0_2, es0_2, rfl, n0_2, s0_2⟩ := all2_cons_inv s0_1
  obtain ⟨x0, G0, V0⟩ := arg_slice n0_2
  obtain ⟨v0_3, es0_3, rfl, n0_3, s0_3⟩ := all2_cons_inv s0_2
  obtain ⟨x1, G1, V1⟩ := arg_slice n0_3
  obtain ⟨v0_4, es0_4, rfl, n0_4, s0_4⟩ := all2_cons_inv s0_3
  obtain ⟨x2, G2, V2⟩ := arg_slice n0_4
  obtain ⟨v0_5, es0_5, rfl, n0_5, s0_5⟩ := all2_cons_inv s0_4
  obtain ⟨rfl, _⟩ := MC_sc n0_5
  obtain ⟨v0_6, es0_6, rfl, n0_6, s0_6⟩ := all2_cons_inv s0_5
  obtain ⟨rfl, _⟩ := MC_sc n0_6
  obtain ⟨v0_7, es0_7, rfl, n0_7, s0_7⟩ := all2_cons_inv s0_6
  obtain ⟨rfl, _⟩ := MC_sc n0_7
  obtain ⟨v0_8, es0_8, rfl, n0_8, s0_8⟩ := all2_cons_inv s0_7
  obtain ⟨rfl, _⟩ := MC_sc n0_8
  obtain ⟨v0_9, es0_9, rfl, n0_9, s0_9⟩ := all2_cons_inv s0_8
  obtain ⟨rfl, _⟩ := MC_sc n0_9
  obtain ⟨v0_10, es0_10, rfl, n0_10, s0_10⟩ := all2_cons_inv s0_9
  obtain ⟨rfl, _⟩ := MC_sc n0_10
  obtain ⟨v0_11, es0_11, rfl, n0_11, s0_11⟩ := all2_cons_inv s0_10
  obtain ⟨rfl, _⟩ := MC_sc n0_11
  obtain rfl := all2_nil_inv s0_11
  clear hA0 hval0 hsz0
  have hp := FnExactPlanSend_pure a0.f0 a0.f1 a0.f2 a0.f3 a0.f4 a0.f5 a0.f6 a0.f7 a0.f8 a0.f9 a0.f10 a0.f11 hg0
  have T := laws_FnExactPlanSend.tri (encL c_i64 a0.f2) 0 a0.f2 (Vw.whole c_i64_w a0.f2) (encL c117 a0.f3) 0 a0.f3 (Vw.whole c117_w a0.f3) (encL c109 a0.f4) 0 a0.f4 (Vw.whole c109_w a0.f4) a0.f0 a0.f1 a0.f5 a0.f6 a0.f7 a0.f8 a0.f9 a0.f10 a0.f11 _ hp
  have hl : Lies W (fun k => match k with | .arg 0 => x0 | .arg 1 => x1 | .arg 2 => x2 | _ => ⟨0, 0, 0⟩) [(.arg 0, ⟨.fz, 1, encL c_i64 a0.f2⟩), (.arg 1, ⟨.fz, 3, encL c117 a0.f3⟩), (.arg 2, ⟨.fz, 5, encL c109 a0.f4⟩)] := ⟨⟨rfl, G0⟩, ⟨rfl, G1⟩, ⟨rfl, G2⟩, trivial⟩
  have R := Tri.reads T hl (vs := [.agg [.int .i64 a0.f0, .int .i64 a0.f1, v0_2, v0_3, v0_4, .int .i64 a0.f5, .int .u64 a0.f6, .int .u64 a0.f7, .int .u64 a0.f8, .int .i64 a0.f9, .int .i64 a0.f10, .int .i64 a0.f11].toArray])
  have R2 := R ⟨⟨[.int .i64 a0.f0, .int .i64 a0.f1, v0_2, v0_3, v0_4, .int .i64 a0.f5, .int .u64 a0.f6, .int .u64 a0.f7, .int .u64 a0.f8, .int .i64 a0.f9, .int .i64 a0.f10, .int .i64 a0.f11], rfl, ⟨⟨rfl, rfl⟩, ⟨rfl, rfl⟩, V0 _ _ _ rfl rfl, V1 _ _ _ rfl rfl, V2 _ _ _ rfl rfl, ⟨rfl, rfl⟩, ⟨rfl, rfl⟩, ⟨rfl, rfl⟩, ⟨rfl, rfl⟩, ⟨rfl, rfl⟩, ⟨rfl, rfl⟩, ⟨rfl, rfl⟩, trivial⟩⟩, trivial⟩
  refine R2.mono fun e W' ⟨X', v, he, hv, bel0⟩ => ?_
  have bel : Below W.heap.size W W' := bel0
  obtain rfl : v = .bool true := hv.1
  subst he
  exact ⟨_, rfl, _, _, _, [], _, [], hW', trodAll_mk1 (shut_bool Try.underlying4 _), (trodAll_cons_mk (Below.trod laidOut (by kernel_rfl) (of_decide_eq_true (by kernel_rfl)) k0 bel lt0) trodAll_mk0), rfl, bel.frame _, fun h => by cases h⟩
theorem over : Rows.fnExactPlanSendRow.holds Try.pinned (OpenSpec.ofChange Rows.fnExactPlanSendSpec) :=
  OpenClaim.holds_of_wide 8 Try.f8 rfl rfl rfl rfl rfl rfl rfl ⟨rfl, rfl, rfl, rfl, rfl⟩ rfl rfl rfl rfl rfl (by kernel_rfl) Try.func8 (by kernel_rfl)
    (of_decide_eq_true (by kernel_rfl)) (by unfold Func.isWrapper; first | (rw [if_pos (by decide +kernel)]; kernel_rfl) | (rw [if_neg (by decide +kernel)]; exact ⟨rfl, rfl⟩))
    (fun os started H enc _ => lifted os started H enc)
theorem proved : Rows.FnExactPlanSendSaid := over
#print axioms proved
end Go.Proofs.Ytakeenidhkhmiaa.fnExactPlanSend
namespace Go.Proofs.Ytakeenidhkhmiaa
/-- The row, under a short name, for the claim. -/
theorem fnExactPlanSend_holds : Rows.FnExactPlanSendSaid := fnExactPlanSend.proved
end Go.Proofs.Ytakeenidhkhmiaa
