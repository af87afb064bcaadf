/- PlanSend's plan is the reference's, its paths are Pick's, eligible and new, data lies within its bounds, and AckMaps and QueueMaps leave just what they must. Conditions: those of the kinds of the law's arguments. -/
import Derived.Test.YtakeenidhkhmiaaPureFnPlan5
set_option linter.unusedSimpArgs false
set_option linter.unusedVariables false
namespace Go.AK
open Go
/-- The law from its call of Pick on. -/
def tailF (l0 l1 : List Int) (pol turn : Int) (picks : List Int) (paths : List V) (maps : List S84) (mm mapped written edge closed fin pay a b c d : Int) (l : List Int) (e f j m : Int) : Option Bool :=
  ((if a ≠ 0 then (impl_Pick.f pol turn j paths m >>= fun t125 => ((if t125.2.2 ≠ 0 then (some true) else (if t125.2.1 ≠ e then (some true) else (laws_lNums.f t125.1 l >>= fun t138 => (if (!t138) = true then (some true) else (if pol ≠ 3 then (some (decide ((t125.1.length : Int) ≠ 1))) else (some false)))))) >>= fun (j128 : Bool) => (if j128 = true then ((some false) >>= fun r => some (Lp.a r)) else (some (.b ()))))) else (some (.b ()))) >>= fun (j117 : Lp _ Unit) => match j117 with | .a r => some r | .b x121 => (laws_FnPlan.l0 l0 m pol turn picks paths maps mm mapped written edge closed fin pay a b c d l e f 0 >>= fun (y193 : Lp Unit Bool) => match y193 with | .a x195 => (impl_AckMaps.f maps (IntKind.u64.wrap (mapped - (IntKind.u64.wrap (mapped.tdiv 3)))) >>= fun t199 => (impl_QueueMaps.f maps ((l1.length : Int).tmod 256) >>= fun t203 => ((if t199.2 ≠ 0 then (some true) else (if t203.2 ≠ 0 then (some true) else (some (decide ((t203.1.length : Int) ≠ (maps.length : Int)))))) >>= fun (j207 : Bool) => (if j207 = true then (some false) else (laws_FnPlan.l1 l1 ((l1.length : Int).tmod 256) (IntKind.u64.wrap (mapped - (IntKind.u64.wrap (mapped.tdiv 3)))) pol turn picks paths maps mm mapped written edge closed fin pay t199.1 t203.1 0 0 >>= fun (y268 : Lp Int Bool) => match y268 with | .a x270 => (some (decide (x270 = (t199.1.length : Int)))) | .b x270 => (some x270)))))) | .b x195 => (some x195)))
theorem el_rd (m : Int) (paths : List V) (i : Int) (h0 : 0 < i) (h1 : i < ((el m 0 paths).length : Int)) : rd 0 (el m 0 paths) (i - 1) < rd 0 (el m 0 paths) i := by
  have pw := (el_range m paths 0).2
  rw [List.pairwise_iff_getElem] at pw
  have := pw (i - 1).toNat i.toNat (by omega) (by omega) (by omega)
  rw [rd_eq (z := (0 : Int)) _ (show (i - 1).toNat < (el m 0 paths).length by omega), rd_eq (z := (0 : Int)) _ (show i.toNat < (el m 0 paths).length by omega)]
  exact this
theorem tail_true (l0 l1 : List Int) (pol turn : Int) (picks : List Int) (paths : List V) (maps : List S84) (mm mapped written edge closed fin pay a b c d : Int) (l : List Int) (e f m : Int) (R : Int → List Int × Int)
    (hI : InOk pol turn picks paths maps mm mapped written edge closed fin pay) (hR : RIs pol turn (pickOf picks) paths R m) (m0 : 0 ≤ m) (m1 : m ≤ 255) (pos : posM maps) (p0 : 0 ≤ mapped)
    (h : (a = 0 ∧ l = []) ∨ (a ≠ 0 ∧ l = (R m).1 ∧ e = (R m).2 ∧ el m 0 paths ≠ [])) : tailF l0 l1 pol turn picks paths maps mm mapped written edge closed fin pay a b c d l e f (pickOf picks) m = some true := by
  have h8 := hI.len.2
  have F : (∀ p ∈ l, p ∈ el m 0 paths) ∧ l.length ≤ 8 ∧ ∀ i : Int, 0 < i → i < (l.length : Int) → rd 0 l (i - 1) < rd 0 l i := by
    rcases h with ⟨_, rfl⟩ | ⟨_, rfl, _, ne⟩
    · exact ⟨fun p hp => (by simp at hp), by simp, fun i a b => by simp at b; omega⟩
    · have nr : (R m).1 ≠ [] := fun h => ne (hR.emp.1 h)
      have o := hR.one nr
      refine ⟨hR.sub, ?_⟩
      by_cases p3 : pol = 3
      · rw [o.2 p3]
        exact ⟨by have := el_len m paths 0; omega, fun i a b => el_rd m paths i a b⟩
      · have := o.1 p3
        exact ⟨by omega, fun i a b => by omega⟩
  unfold tailF
  have P : (if a ≠ 0 then (impl_Pick.f pol turn (pickOf picks) paths m >>= fun t125 => ((if t125.2.2 ≠ 0 then (some true) else (if t125.2.1 ≠ e then (some true) else (laws_lNums.f t125.1 l >>= fun t138 => (if (!t138) = true then (some true) else (if pol ≠ 3 then (some (decide ((t125.1.length : Int) ≠ 1))) else (some false)))))) >>= fun (j128 : Bool) => (if j128 = true then ((some false) >>= fun r => some (Lp.a r)) else (some (.b ()))))) else (some (.b ()))) = (some (.b ()) : Option (Lp Bool Unit)) := by
    rcases h with ⟨ha, _⟩ | ⟨ha, hl, he, ne⟩
    · rw [if_neg (fun h => h ha)]
    · have nr : (R m).1 ≠ [] := fun h => ne (hR.emp.1 h)
      have o := hR.one nr
      have n := nums_is l (by omega)
      have g : (if pol ≠ 3 then (some (decide (((R m).1.length : Int) ≠ 1))) else (some false)) = some false := by
        by_cases p3 : pol = 3
        · rw [if_neg (fun h => h p3)]
        · rw [if_pos p3, decide_eq_false (by have := o.1 p3; omega)]
      rw [if_pos ha, hR.pick, some_bind]
      dsimp only
      rw [if_neg (fun h => h rfl), if_neg (fun h => h he.symm), ← hl, n, some_bind, if_neg (by decide), hl, g, some_bind, if_neg nft]
  rw [P, some_bind]
  dsimp only
  rw [law_l0 l0 m pol turn picks paths maps mm mapped written edge closed fin pay a b c d e f l m0 m1 h8 F.2.1 F.1 F.2.2 l 0 (by omega) rfl, some_bind]
  dsimp only
  have cap := hI.cap
  have ha : IntKind.u64.wrap (mapped - (IntKind.u64.wrap (mapped.tdiv 3))) = mapped - mapped / 3 := by
    rw [Int.tdiv_eq_ediv_of_nonneg p0, wu64_in (n := mapped / 3) (by omega) (by omega), wu64_in (by omega) (by omega)]
  have hm : 0 ≤ (l1.length : Int).tmod 256 ∧ (l1.length : Int).tmod 256 ≤ 255 := by rw [Int.tmod_eq_emod_of_nonneg (by omega)]; omega
  rw [ha]
  obtain ⟨r, r1, r2, r3, r4⟩ := ack_is hI.mat pos hI.mlen hI.vm (mapped - mapped / 3) (by omega) (by omega)
  rw [r1, some_bind, queue_is hI.mlen hI.vm _ hm.1 hm.2, some_bind]
  dsimp only
  have L := law_l1 l1 ((l1.length : Int).tmod 256) (mapped - mapped / 3) pol turn picks paths mm mapped written edge closed fin pay maps r hI.mlen r2 r3 r4 maps 0 (by omega) rfl (by omega)
  rw [if_pos (show (0 : Int) ≤ r by omega)] at L
  rw [if_neg (fun h => h rfl), if_neg (fun h => h rfl), List.length_map, decide_eq_false (fun h => h rfl), some_bind, if_neg nft, L, some_bind]
  dsimp only
  rw [decide_eq_true (by rw [List.length_drop]; omega)]
theorem data_ok (mapped written edge pay d : Int) (h0 : 0 ≤ mapped) (h1 : mapped < written) (h2 : mapped < edge) (c1 : written ≤ 4611686018427387904) (c2 : edge ≤ 4611686018427387904) (p : 1 ≤ pay ∧ pay ≤ 32)
    (h : spec_l6Least.f (IntKind.u64.wrap pay) (IntKind.u64.wrap (written - mapped)) (IntKind.u64.wrap (edge - mapped)) = some d) : 1 ≤ d ∧ d ≤ pay ∧ IntKind.u64.wrap (mapped + IntKind.u64.wrap d) ≤ written ∧ IntKind.u64.wrap (mapped + IntKind.u64.wrap d) ≤ edge := by
  rw [least_is, wu64_in (n := pay) (by omega) (by omega), wu64_in (n := written - mapped) (by omega) (by omega), wu64_in (n := edge - mapped) (by omega) (by omega)] at h
  have h := Option.some.inj h
  have k : 1 ≤ d ∧ d ≤ pay ∧ d ≤ written - mapped ∧ d ≤ edge - mapped := by
    split at h <;> split at h <;> rw [wi64_in (by omega) (by omega)] at h <;> omega
  rw [wu64_in (n := d) (by omega) (by omega), wu64_in (by omega) (by omega)]
  omega
theorem FnPlan_pure (l0 l1 : List Int) (_ : l0.length ≤ maxLen) (_ : ∀ x ∈ l0, (Lit.int .u8 x).wf = true) (_ : l1.length ≤ maxLen) (_ : ∀ x ∈ l1, (Lit.int .u8 x).wf = true) : laws_FnPlan.f l0 l1 = some true := by
  unfold laws_FnPlan.f
  by_cases c0 : (l0.length : Int) > 1048576
  · rw [if_pos c0, some_bind, if_pos rfl]
  by_cases c1 : (l1.length : Int) > 1048576
  · rw [if_neg c0, decide_eq_true c1, some_bind, if_pos rfl]
  rw [if_neg c0, decide_eq_false c1, some_bind, if_neg nft]
  obtain ⟨⟨pol, turn, picks, paths, maps, mm, mapped, written, edge, closed, fin, pay⟩, e1, pos, p0⟩ := draw_ex l0 (by omega)
  rw [e1, some_bind]
  dsimp only at pos p0 ⊢
  obtain ⟨a, b, c, d, l, e, f, k, q1, q2, q3, q4⟩ := plan_both pol turn picks paths maps mm mapped written edge closed fin pay
  rw [q1, some_bind, q2, some_bind]
  dsimp only
  rw [if_neg (fun h => h rfl)]
  by_cases k0 : k = 0
  · obtain ⟨hI, R, hR, hP⟩ := q4 k0
    rw [if_neg (fun h => h k0)]
    have om := hI.mok
    have hz : ((decide (a = 0)) == (decide ((l.length : Int) = 0))) = true := by
      have ne : ∀ m, 0 ≤ m → m ≤ 255 → el m 0 paths ≠ [] → l = (R m).1 → decide ((l.length : Int) = 0) = false := fun m m0 m1 n h => by
        rw [decide_eq_false_iff_not]
        intro g
        exact n ((hR m m0 m1).emp.1 (by rw [← h]; exact List.length_eq_zero_iff.1 (by omega)))
      rcases hP with ⟨rfl, rfl⟩ | ⟨rfl, b0, b1, g1, g2, g3, g4, g5, g6⟩ | ⟨rfl, g1, g2, g3, g4, g5, g6⟩ | ⟨rfl, g4, g5, g6⟩
      · rfl
      · have o := om _ (rd_mem (z := z84) b0 b1)
        rw [ne _ (by have := o.1; omega) o.2 g6 g4]; rfl
      · rw [ne 0 (by omega) (by omega) g6 g4]; rfl
      · rw [ne 0 (by omega) (by omega) g6 g4]; rfl
    rw [if_neg (fun h => h rfl), if_neg (fun h => h rfl), hz, some_bind, if_neg (by decide), pick_i, some_bind]
    rcases hP with ⟨rfl, hl⟩ | ⟨rfl, b0, b1, g1, g2, g3, g4, g5, g6⟩ | ⟨rfl, g1, g2, g3, g4, g5, g6⟩ | ⟨rfl, g4, g5, g6⟩
    · rw [if_neg (by decide), some_bind]
      dsimp only
      rw [if_neg (by decide), some_bind, if_neg nft]
      exact tail_true l0 l1 pol turn picks paths maps mm mapped written edge closed fin pay 0 b c d l e f 0 R hI (hR 0 (by omega) (by omega)) (by omega) (by omega) pos p0 (.inl ⟨rfl, hl⟩)
    · have o := om _ (rd_mem (z := z84) b0 b1)
      rw [if_pos rfl, if_pos ⟨b0, b1⟩, if_neg (fun h => h g1), if_neg (fun h => h g2), decide_eq_false (fun h => h g3), some_bind, if_neg nft, some_bind]
      dsimp only
      rw [if_neg (by decide), some_bind, if_neg nft]
      exact tail_true l0 l1 pol turn picks paths maps mm mapped written edge closed fin pay 1 b c d l e f _ R hI (hR _ (by have := o.1; omega) o.2) (by have := o.1; omega) o.2 pos p0 (.inr ⟨by decide, g4, g5, g6⟩)
    · have D := data_ok mapped written edge pay d p0 g2.1 g2.2 hI.cap.2.1 hI.cap.2.2 hI.pay g3
      rw [if_neg (by decide), some_bind]
      dsimp only
      rw [if_pos rfl, if_neg (fun h => h g1), if_neg (by omega), if_neg (by omega), if_neg (by omega), decide_eq_false (by omega), some_bind, if_neg nft]
      exact tail_true l0 l1 pol turn picks paths maps mm mapped written edge closed fin pay 2 b c d l e f 0 R hI (hR 0 (by omega) (by omega)) (by omega) (by omega) pos p0 (.inr ⟨by decide, g4, g5, g6⟩)
    · rw [if_neg (by decide), some_bind]
      dsimp only
      rw [if_neg (by decide), some_bind, if_neg nft]
      exact tail_true l0 l1 pol turn picks paths maps mm mapped written edge closed fin pay 3 b c d l e f 0 R hI (hR 0 (by omega) (by omega)) (by omega) (by omega) pos p0 (.inr ⟨by decide, g4, g5, g6⟩)
  · obtain ⟨rfl, rfl⟩ := q3 k0
    rw [if_pos k0, if_pos rfl]; rfl
end Go.AK
