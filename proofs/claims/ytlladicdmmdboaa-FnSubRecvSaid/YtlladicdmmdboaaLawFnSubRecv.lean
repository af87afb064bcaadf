-- by a program of this session (wip/ak/lw.py)
import Derived.Test.YtlladicdmmdboaaPureFnSubRecv6
import Derived.Test.YtlladicdmmdboaaRows
import Derived.WalkKit
import Derived.ProofKit
import Derived.OpenShut
import Derived.ShutString
import Derived.ChangeOld
import Derived.Below
import Derived.SizedLaws
set_option linter.unusedVariables false
namespace Go.Proofs.Ytlladicdmmdboaa.fnSubRecv
open Go Go.ChangeShapes Go.WideShapes Go.ChangeAt Go.RowKit Go.Proofs Go.AK
open Go.ChangeMaps (open_string shut_string)
theorem own : ownKnob Try.prog.godebug = none := by kernel_rfl
theorem laidOut : laidOutB Try.prog = true := by kernel_rfl
set_option maxRecDepth 100000 in
set_option maxHeartbeats 4000000 in
theorem lifted (os : Os) (started : os.Started) (H : Type) (enc : TypeId × Value → H) :
    ReturnsInHanded {} Try.checked os 7 .any (Rows.fnSubRecvSpec.pre6 enc Try.prog Try.f7 Rows.fnSubRecvRow.domain false) (Rows.fnSubRecvSpec.post enc Try.prog Try.f7 false true false false) := by
  refine returnsInHanded_of_change_sized (C := Try.checked) own started (by kernel_rfl) Try.func7
    (ChangeSpec.witness6 (enc := enc) (C := Try.checked) false ⟨#[], #[.slice none 0 0, .slice none 0 0], []⟩ 8 (by kernel_rfl) (by kernel_rfl) (by kernel_rfl) (by kernel_rfl)) ?_
  intro W base args ds gs before hval0 hW hcnd hsz0 _
  have hval : ∀ (j : Nat) t v, Try.f7.params[j]? = some t → args[j]? = some v → Value.okWide Try.prog W .any base t v := hval0
  have hW' := hW
  obtain ⟨p, q, hA0, hV, rfl, hfz, hnd⟩ := hW
  have hA : DataW.TrodAll enc Try.prog W 0 (fun _ => true) true Try.f7.params.toList args.toList ds p := hA0
  rw [Try.params7] at hA hval
  obtain ⟨v0, vs0, d0, ds0, p0, q0, hargs, rfl, rfl, h0, r0⟩ := trodAll_cons hA
  obtain ⟨v1, vs1, d1, ds1, p1, q1, rfl, rfl, rfl, h1, r1⟩ := trodAll_cons r0
  obtain ⟨rfl, rfl, rfl⟩ := trodAll_nil r1
  obtain rfl : args = #[v0, v1] := by cases args; simp_all
  obtain ⟨rfl, rfl⟩ := trodVars_none hV
  have k0 := h0
  have lt0 : ∀ x ∈ p0, x.block < W.heap.size := by obtain ⟨m, hm⟩ := k0; exact DataW.trod_lt m _ _ _ hm
  obtain ⟨A0, len0, c0, rfl⟩ := okWide_slice Try.underlying22 (hval 0 22 v0 rfl rfl)
  obtain ⟨fuel0, hf0⟩ := h0
  obtain ⟨l0, ⟨m0, _⟩, hg0⟩ := (opens_slice (c := c_u8) (w := 1) Try.underlying22 c_u8_w (by kernel_rfl) (by decide) (opens_int Try.underlying5)) H enc W fuel0 _ _ hf0
  obtain ⟨x0, G0, V0⟩ := arg_slice m0
  have k1 := h1
  have lt1 : ∀ x ∈ p1, x.block < W.heap.size := by obtain ⟨m, hm⟩ := k1; exact DataW.trod_lt m _ _ _ hm
  obtain ⟨A1, len1, c1, rfl⟩ := okWide_slice Try.underlying22 (hval 1 22 v1 rfl rfl)
  obtain ⟨fuel1, hf1⟩ := h1
  obtain ⟨l1, ⟨m1, _⟩, hg1⟩ := (opens_slice (c := c_u8) (w := 1) Try.underlying22 c_u8_w (by kernel_rfl) (by decide) (opens_int Try.underlying5)) H enc W fuel1 _ _ hf1
  obtain ⟨x1, G1, V1⟩ := arg_slice m1
  clear hA0 hval0 hsz0
  have hp := FnSubRecv_pure l0 l1 hg0.1 hg0.2 hg1.1 hg1.2
  have T := laws_FnSubRecv.tri (encL c_u8 l0) 0 l0 (Vw.whole c_u8_w l0) (encL c_u8 l1) 0 l1 (Vw.whole c_u8_w l1) _ hp
  have hl : Lies W (fun k => match k with | .arg 0 => x0 | .arg 1 => x1 | _ => ⟨0, 0, 0⟩) [(.arg 0, ⟨.fz, 1, encL c_u8 l0⟩), (.arg 1, ⟨.fz, 1, encL c_u8 l1⟩)] := ⟨⟨rfl, G0⟩, ⟨rfl, G1⟩, trivial⟩
  have R := Tri.reads T hl (vs := [.slice A0 len0 c0, .slice A1 len1 c1])
  have R2 := R ⟨V0 _ _ _ rfl rfl, V1 _ _ _ rfl rfl, trivial⟩
  refine R2.mono fun e W' ⟨X', v, he, hv, bel0⟩ => ?_
  have bel : Below W.heap.size W W' := bel0
  obtain rfl : v = .bool true := hv.1
  subst he
  exact ⟨_, rfl, _, _, _, [], _, [], hW', trodAll_mk1 (shut_bool Try.underlying4 _), (trodAll_cons_mk (Below.trod laidOut (by kernel_rfl) (of_decide_eq_true (by kernel_rfl)) k0 bel lt0) (trodAll_cons_mk (Below.trod laidOut (by kernel_rfl) (of_decide_eq_true (by kernel_rfl)) k1 bel lt1) trodAll_mk0)), rfl, bel.frame _, fun h => by cases h⟩
theorem over : Rows.fnSubRecvRow.holds Try.pinned (OpenSpec.ofChange Rows.fnSubRecvSpec) :=
  OpenClaim.holds_of_wide 7 Try.f7 rfl rfl rfl rfl rfl rfl rfl ⟨rfl, rfl, rfl, rfl, rfl⟩ rfl rfl rfl rfl rfl (by kernel_rfl) Try.func7 (by kernel_rfl)
    (of_decide_eq_true (by kernel_rfl)) (by unfold Func.isWrapper; first | (rw [if_pos (by decide +kernel)]; kernel_rfl) | (rw [if_neg (by decide +kernel)]; exact ⟨rfl, rfl⟩))
    (fun os started H enc _ => lifted os started H enc)
theorem proved : Rows.FnSubRecvSaid := over
#print axioms proved
end Go.Proofs.Ytlladicdmmdboaa.fnSubRecv
namespace Go.Proofs.Ytlladicdmmdboaa
/-- The row, under a short name, for the claim. -/
theorem fnSubRecv_holds : Rows.FnSubRecvSaid := fnSubRecv.proved
end Go.Proofs.Ytlladicdmmdboaa
