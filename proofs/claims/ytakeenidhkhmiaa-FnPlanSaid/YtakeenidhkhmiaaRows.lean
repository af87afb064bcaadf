/-
  No cell of these rows narrows 'for every input' (looked for: loops, veiled, ifaces, maps, wideKeys, modest, calm, conditions, laid).
  DERIVED. THE GIVEN ROWS OF THIS SEAT. 8 by the template 'for every input the law returns true; each argument reads behind the call as it read before'; 0 by the template 'total and deterministic' (their statements: YtakeenidhkhmiaaTotals.lean).
  GIVEN WITH THE SEED: the statements are not yours to turn. If you find one false, say at which input.
  Laid BY PROGRAM, IN A SANDBOX (cutbox-rows.mjs): the forced cells as the released guide's own fill.sh prints them over the translation 8acf01e1a5c47ea2… (all of the seat's roots in one cut). By AI agents, Wed Nov 11 2026. No macro, syntax, notation, axiom, sorry.
-/
import Derived.Test.YtakeenidhkhmiaaChecked
import GoSem.Claim
import GoSem.ClaimJoined
import GoSem.ClaimMapViews
import Derived.JoinedTies
import Derived.KernelRfl
namespace Go.Proofs.Ytakeenidhkhmiaa
/- THE CELL 'sum', in the pinned program and in every row, IS THE sha256 OF THE DUMP (.gsa) THAT YtakeenidhkhmiaaProg.lean LOADS. Nothing in Lean hashes anything: it is a label: what it is worth is what the hold of that sum in a sandbox is worth. -/
noncomputable def Try.pinned : Pinned := { name := "ytakeenidhkhmiaa", sum := "8acf01e1a5c47ea20f292b24455244a5fe617dd768747e97a1b9ea2f4c78f4a3", checked := Try.checked }
namespace Rows
def none {H : Type} : Left H := { results := [], args := [] }

/-- 'laws.FnExactSpanAdd': WHATEVER THE INPUT: true; the input reads as it did. -/
def fnExactSpanAddSpec : ChangeSpec := { name := "fnExactSpanAdd", fn := fun _ => fun
  | [d1, d2] => { results := [.lit (.bool true)], args := [d1, d2] }
  | _ => none }
def fnExactSpanAddRow : OpenClaim := { program := "ytakeenidhkhmiaa", sum := "8acf01e1a5c47ea20f292b24455244a5fe617dd768747e97a1b9ea2f4c78f4a3", func := "loop.example/s03010/laws.FnExactSpanAdd", spec := "fnExactSpanAdd", unfollowed := true, recurses := true, apart := false }
def FnExactSpanAddSaid : Prop := fnExactSpanAddRow.holds Try.pinned (OpenSpec.ofChange fnExactSpanAddSpec)

/-- ITS FALSE NEIGHBOUR: 'it returns false'. Refute it at one input. -/
def fnExactSpanAddWrong : ChangeSpec := { name := "fnExactSpanAdd", fn := fun _ => fun
  | [d1, d2] => { results := [.lit (.bool false)], args := [d1, d2] }
  | _ => none }
def FnExactSpanAddWrongFalsely : Prop := fnExactSpanAddRow.holds Try.pinned (OpenSpec.ofChange fnExactSpanAddWrong)

/-- 'laws.FnSpans': WHATEVER THE INPUT: true; the input reads as it did. -/
def fnSpansSpec : ChangeSpec := { name := "fnSpans", fn := fun _ => fun
  | [d] => { results := [.lit (.bool true)], args := [d] }
  | _ => none }
def fnSpansRow : OpenClaim := { program := "ytakeenidhkhmiaa", sum := "8acf01e1a5c47ea20f292b24455244a5fe617dd768747e97a1b9ea2f4c78f4a3", func := "loop.example/s03010/laws.FnSpans", spec := "fnSpans", unfollowed := true, recurses := true, apart := false }
def FnSpansSaid : Prop := fnSpansRow.holds Try.pinned (OpenSpec.ofChange fnSpansSpec)

/-- ITS FALSE NEIGHBOUR: 'it returns false'. Refute it at one input. -/
def fnSpansWrong : ChangeSpec := { name := "fnSpans", fn := fun _ => fun
  | [d] => { results := [.lit (.bool false)], args := [d] }
  | _ => none }
def FnSpansWrongFalsely : Prop := fnSpansRow.holds Try.pinned (OpenSpec.ofChange fnSpansWrong)

/-- 'laws.FnExactAckMaps': WHATEVER THE INPUT: true; the input reads as it did. -/
def fnExactAckMapsSpec : ChangeSpec := { name := "fnExactAckMaps", fn := fun _ => fun
  | [d1, d2] => { results := [.lit (.bool true)], args := [d1, d2] }
  | _ => none }
def fnExactAckMapsRow : OpenClaim := { program := "ytakeenidhkhmiaa", sum := "8acf01e1a5c47ea20f292b24455244a5fe617dd768747e97a1b9ea2f4c78f4a3", func := "loop.example/s03010/laws.FnExactAckMaps", spec := "fnExactAckMaps", unfollowed := true, recurses := true, apart := false }
def FnExactAckMapsSaid : Prop := fnExactAckMapsRow.holds Try.pinned (OpenSpec.ofChange fnExactAckMapsSpec)

/-- ITS FALSE NEIGHBOUR: 'it returns false'. Refute it at one input. -/
def fnExactAckMapsWrong : ChangeSpec := { name := "fnExactAckMaps", fn := fun _ => fun
  | [d1, d2] => { results := [.lit (.bool false)], args := [d1, d2] }
  | _ => none }
def FnExactAckMapsWrongFalsely : Prop := fnExactAckMapsRow.holds Try.pinned (OpenSpec.ofChange fnExactAckMapsWrong)

/-- 'laws.FnExactQueueMaps': WHATEVER THE INPUT: true; the input reads as it did. -/
def fnExactQueueMapsSpec : ChangeSpec := { name := "fnExactQueueMaps", fn := fun _ => fun
  | [d1, d2] => { results := [.lit (.bool true)], args := [d1, d2] }
  | _ => none }
def fnExactQueueMapsRow : OpenClaim := { program := "ytakeenidhkhmiaa", sum := "8acf01e1a5c47ea20f292b24455244a5fe617dd768747e97a1b9ea2f4c78f4a3", func := "loop.example/s03010/laws.FnExactQueueMaps", spec := "fnExactQueueMaps", apart := false }
def FnExactQueueMapsSaid : Prop := fnExactQueueMapsRow.holds Try.pinned (OpenSpec.ofChange fnExactQueueMapsSpec)

/-- ITS FALSE NEIGHBOUR: 'it returns false'. Refute it at one input. -/
def fnExactQueueMapsWrong : ChangeSpec := { name := "fnExactQueueMaps", fn := fun _ => fun
  | [d1, d2] => { results := [.lit (.bool false)], args := [d1, d2] }
  | _ => none }
def FnExactQueueMapsWrongFalsely : Prop := fnExactQueueMapsRow.holds Try.pinned (OpenSpec.ofChange fnExactQueueMapsWrong)

/-- 'laws.FnExactPick': WHATEVER THE INPUT: true; the input reads as it did. -/
def fnExactPickSpec : ChangeSpec := { name := "fnExactPick", fn := fun _ => fun
  | [d1, d2, d3, d4, d5] => { results := [.lit (.bool true)], args := [d1, d2, d3, d4, d5] }
  | _ => none }
def fnExactPickRow : OpenClaim := { program := "ytakeenidhkhmiaa", sum := "8acf01e1a5c47ea20f292b24455244a5fe617dd768747e97a1b9ea2f4c78f4a3", func := "loop.example/s03010/laws.FnExactPick", spec := "fnExactPick", unfollowed := true, recurses := true, apart := false }
def FnExactPickSaid : Prop := fnExactPickRow.holds Try.pinned (OpenSpec.ofChange fnExactPickSpec)

/-- ITS FALSE NEIGHBOUR: 'it returns false'. Refute it at one input. -/
def fnExactPickWrong : ChangeSpec := { name := "fnExactPick", fn := fun _ => fun
  | [d1, d2, d3, d4, d5] => { results := [.lit (.bool false)], args := [d1, d2, d3, d4, d5] }
  | _ => none }
def FnExactPickWrongFalsely : Prop := fnExactPickRow.holds Try.pinned (OpenSpec.ofChange fnExactPickWrong)

/-- 'laws.FnExactPlanSend': WHATEVER THE INPUT: true; the input reads as it did. -/
def fnExactPlanSendSpec : ChangeSpec := { name := "fnExactPlanSend", fn := fun _ => fun
  | [d] => { results := [.lit (.bool true)], args := [d] }
  | _ => none }
def fnExactPlanSendRow : OpenClaim := { program := "ytakeenidhkhmiaa", sum := "8acf01e1a5c47ea20f292b24455244a5fe617dd768747e97a1b9ea2f4c78f4a3", func := "loop.example/s03010/laws.FnExactPlanSend", spec := "fnExactPlanSend", unfollowed := true, recurses := true, apart := false }
def FnExactPlanSendSaid : Prop := fnExactPlanSendRow.holds Try.pinned (OpenSpec.ofChange fnExactPlanSendSpec)

/-- ITS FALSE NEIGHBOUR: 'it returns false'. Refute it at one input. -/
def fnExactPlanSendWrong : ChangeSpec := { name := "fnExactPlanSend", fn := fun _ => fun
  | [d] => { results := [.lit (.bool false)], args := [d] }
  | _ => none }
def FnExactPlanSendWrongFalsely : Prop := fnExactPlanSendRow.holds Try.pinned (OpenSpec.ofChange fnExactPlanSendWrong)

/-- 'laws.FnPlan': WHATEVER THE INPUT: true; the input reads as it did. -/
def fnPlanSpec : ChangeSpec := { name := "fnPlan", fn := fun _ => fun
  | [d1, d2] => { results := [.lit (.bool true)], args := [d1, d2] }
  | _ => none }
def fnPlanRow : OpenClaim := { program := "ytakeenidhkhmiaa", sum := "8acf01e1a5c47ea20f292b24455244a5fe617dd768747e97a1b9ea2f4c78f4a3", func := "loop.example/s03010/laws.FnPlan", spec := "fnPlan", unfollowed := true, recurses := true, apart := false }
def FnPlanSaid : Prop := fnPlanRow.holds Try.pinned (OpenSpec.ofChange fnPlanSpec)

/-- ITS FALSE NEIGHBOUR: 'it returns false'. Refute it at one input. -/
def fnPlanWrong : ChangeSpec := { name := "fnPlan", fn := fun _ => fun
  | [d1, d2] => { results := [.lit (.bool false)], args := [d1, d2] }
  | _ => none }
def FnPlanWrongFalsely : Prop := fnPlanRow.holds Try.pinned (OpenSpec.ofChange fnPlanWrong)

/-- 'laws.FnExactEncodeFrame': WHATEVER THE INPUT: true; the input reads as it did. -/
def fnExactEncodeFrameSpec : ChangeSpec := { name := "fnExactEncodeFrame", fn := fun _ => fun
  | [d] => { results := [.lit (.bool true)], args := [d] }
  | _ => none }
def fnExactEncodeFrameRow : OpenClaim := { program := "ytakeenidhkhmiaa", sum := "8acf01e1a5c47ea20f292b24455244a5fe617dd768747e97a1b9ea2f4c78f4a3", func := "loop.example/s03010/laws.FnExactEncodeFrame", spec := "fnExactEncodeFrame", apart := false }
def FnExactEncodeFrameSaid : Prop := fnExactEncodeFrameRow.holds Try.pinned (OpenSpec.ofChange fnExactEncodeFrameSpec)

/-- ITS FALSE NEIGHBOUR: 'it returns false'. Refute it at one input. -/
def fnExactEncodeFrameWrong : ChangeSpec := { name := "fnExactEncodeFrame", fn := fun _ => fun
  | [d] => { results := [.lit (.bool false)], args := [d] }
  | _ => none }
def FnExactEncodeFrameWrongFalsely : Prop := fnExactEncodeFrameRow.holds Try.pinned (OpenSpec.ofChange fnExactEncodeFrameWrong)

/- THE SECOND FORM. 'bulk': how many values and letters a reading holds, each counted each time it is reached (what is shared counts as often as it is met; a slice's spare places count too). A statement '..UptoSaid' is the law's where the arguments, and the package variables that the reading takes, are together of bulk at most 1048576: NARROWER than '..Said'. Prove '..Said' where nothing that the law and all that it calls make is longer than what came in: it says more and counts as full. Else prove '..UptoSaid'. A law counts once. -/
mutual
def uptoBulk {H : Type} : DataW H → Nat
  | .lit (.string bytes) => bytes.length + 1
  | .lit _ => 1
  | .nil => 1
  | .ptr d => uptoBulk d + 1
  | .slice elems spare => uptoBulkAll elems + uptoBulkAll spare + 1
  | .agg parts => uptoBulkAll parts + 1
  | .iface _ d => uptoBulk d + 1
  | .map entries => uptoBulkEntries entries + 1
  | .held _ => 1
def uptoBulkAll {H : Type} : List (DataW H) → Nat
  | [] => 0
  | d :: r => uptoBulk d + uptoBulkAll r
def uptoBulkEntries {H : Type} : List (Lit × DataW H) → Nat
  | [] => 0
  | x :: r => uptoBulkEntry x + uptoBulkEntries r
def uptoBulkEntry {H : Type} : Lit × DataW H → Nat
  | (.string bytes, d) => bytes.length + uptoBulk d + 1
  | (_, d) => uptoBulk d + 1
 end
def uptoSmall : (H : Type) → List (DataW H) → Bool := fun _ ds => decide (uptoBulkAll ds ≤ 1048576)
def OpenSpec.upto (s : _root_.Go.ChangeSpec) : _root_.Go.OpenSpec := { _root_.Go.OpenSpec.ofChange s with cond := some uptoSmall }

/-- 'laws.FnExactSpanAdd', WHERE WHAT IT READS IS OF BULK AT MOST 1048576: true; the input reads as it did. -/
def fnExactSpanAddUptoRow : OpenClaim := { program := "ytakeenidhkhmiaa", sum := "8acf01e1a5c47ea20f292b24455244a5fe617dd768747e97a1b9ea2f4c78f4a3", func := "loop.example/s03010/laws.FnExactSpanAdd", spec := "fnExactSpanAdd", unfollowed := true, recurses := true, apart := false, narrowed := true }
def FnExactSpanAddUptoSaid : Prop := fnExactSpanAddUptoRow.holds Try.pinned (OpenSpec.upto fnExactSpanAddSpec)

/-- 'laws.FnSpans', WHERE WHAT IT READS IS OF BULK AT MOST 1048576: true; the input reads as it did. -/
def fnSpansUptoRow : OpenClaim := { program := "ytakeenidhkhmiaa", sum := "8acf01e1a5c47ea20f292b24455244a5fe617dd768747e97a1b9ea2f4c78f4a3", func := "loop.example/s03010/laws.FnSpans", spec := "fnSpans", unfollowed := true, recurses := true, apart := false, narrowed := true }
def FnSpansUptoSaid : Prop := fnSpansUptoRow.holds Try.pinned (OpenSpec.upto fnSpansSpec)

/-- 'laws.FnExactAckMaps', WHERE WHAT IT READS IS OF BULK AT MOST 1048576: true; the input reads as it did. -/
def fnExactAckMapsUptoRow : OpenClaim := { program := "ytakeenidhkhmiaa", sum := "8acf01e1a5c47ea20f292b24455244a5fe617dd768747e97a1b9ea2f4c78f4a3", func := "loop.example/s03010/laws.FnExactAckMaps", spec := "fnExactAckMaps", unfollowed := true, recurses := true, apart := false, narrowed := true }
def FnExactAckMapsUptoSaid : Prop := fnExactAckMapsUptoRow.holds Try.pinned (OpenSpec.upto fnExactAckMapsSpec)

/-- 'laws.FnExactQueueMaps', WHERE WHAT IT READS IS OF BULK AT MOST 1048576: true; the input reads as it did. -/
def fnExactQueueMapsUptoRow : OpenClaim := { program := "ytakeenidhkhmiaa", sum := "8acf01e1a5c47ea20f292b24455244a5fe617dd768747e97a1b9ea2f4c78f4a3", func := "loop.example/s03010/laws.FnExactQueueMaps", spec := "fnExactQueueMaps", apart := false, narrowed := true }
def FnExactQueueMapsUptoSaid : Prop := fnExactQueueMapsUptoRow.holds Try.pinned (OpenSpec.upto fnExactQueueMapsSpec)

/-- 'laws.FnExactPick', WHERE WHAT IT READS IS OF BULK AT MOST 1048576: true; the input reads as it did. -/
def fnExactPickUptoRow : OpenClaim := { program := "ytakeenidhkhmiaa", sum := "8acf01e1a5c47ea20f292b24455244a5fe617dd768747e97a1b9ea2f4c78f4a3", func := "loop.example/s03010/laws.FnExactPick", spec := "fnExactPick", unfollowed := true, recurses := true, apart := false, narrowed := true }
def FnExactPickUptoSaid : Prop := fnExactPickUptoRow.holds Try.pinned (OpenSpec.upto fnExactPickSpec)

/-- 'laws.FnExactPlanSend', WHERE WHAT IT READS IS OF BULK AT MOST 1048576: true; the input reads as it did. -/
def fnExactPlanSendUptoRow : OpenClaim := { program := "ytakeenidhkhmiaa", sum := "8acf01e1a5c47ea20f292b24455244a5fe617dd768747e97a1b9ea2f4c78f4a3", func := "loop.example/s03010/laws.FnExactPlanSend", spec := "fnExactPlanSend", unfollowed := true, recurses := true, apart := false, narrowed := true }
def FnExactPlanSendUptoSaid : Prop := fnExactPlanSendUptoRow.holds Try.pinned (OpenSpec.upto fnExactPlanSendSpec)

/-- 'laws.FnPlan', WHERE WHAT IT READS IS OF BULK AT MOST 1048576: true; the input reads as it did. -/
def fnPlanUptoRow : OpenClaim := { program := "ytakeenidhkhmiaa", sum := "8acf01e1a5c47ea20f292b24455244a5fe617dd768747e97a1b9ea2f4c78f4a3", func := "loop.example/s03010/laws.FnPlan", spec := "fnPlan", unfollowed := true, recurses := true, apart := false, narrowed := true }
def FnPlanUptoSaid : Prop := fnPlanUptoRow.holds Try.pinned (OpenSpec.upto fnPlanSpec)

/-- 'laws.FnExactEncodeFrame', WHERE WHAT IT READS IS OF BULK AT MOST 1048576: true; the input reads as it did. -/
def fnExactEncodeFrameUptoRow : OpenClaim := { program := "ytakeenidhkhmiaa", sum := "8acf01e1a5c47ea20f292b24455244a5fe617dd768747e97a1b9ea2f4c78f4a3", func := "loop.example/s03010/laws.FnExactEncodeFrame", spec := "fnExactEncodeFrame", apart := false, narrowed := true }
def FnExactEncodeFrameUptoSaid : Prop := fnExactEncodeFrameUptoRow.holds Try.pinned (OpenSpec.upto fnExactEncodeFrameSpec)

end Rows
end Go.Proofs.Ytakeenidhkhmiaa
