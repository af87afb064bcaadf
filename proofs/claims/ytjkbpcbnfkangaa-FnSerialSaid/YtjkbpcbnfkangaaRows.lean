/-
  No cell of these rows narrows 'for every input' (looked for: loops, veiled, ifaces, maps, wideKeys, modest, calm, conditions, laid).
  DERIVED. THE GIVEN ROWS OF THIS SEAT. 12 by the template 'for every input the law returns true; each argument reads behind the call as it read before'; 0 by the template 'total and deterministic' (their statements: YtjkbpcbnfkangaaTotals.lean).
  GIVEN WITH THE SEED: the statements are not yours to turn. If you find one false, say at which input.
  Laid BY PROGRAM, IN A SANDBOX (cutbox-rows.mjs): the forced cells as the released guide's own fill.sh prints them over the translation 5aba10526e70df5a… (all of the seat's roots in one cut). By AI agents, Wed Nov 11 2026. No macro, syntax, notation, axiom, sorry.
-/
import Derived.Test.YtjkbpcbnfkangaaChecked
import GoSem.Claim
import GoSem.ClaimJoined
import GoSem.ClaimMapViews
import Derived.JoinedTies
import Derived.KernelRfl
namespace Go.Proofs.Ytjkbpcbnfkangaa
/- THE CELL 'sum', in the pinned program and in every row, IS THE sha256 OF THE DUMP (.gsa) THAT YtjkbpcbnfkangaaProg.lean LOADS. Nothing in Lean hashes anything: it is a label: what it is worth is what the hold of that sum in a sandbox is worth. -/
noncomputable def Try.pinned : Pinned := { name := "ytjkbpcbnfkangaa", sum := "5aba10526e70df5afb27f2f96cca58d5394dc346fa31e51cb629d471f1c8a755", checked := Try.checked }
namespace Rows
def none {H : Type} : Left H := { results := [], args := [] }

/-- 'laws.FnExactConstants': WHATEVER THE INPUT: true; the input reads as it did. -/
def fnExactConstantsSpec : ChangeSpec := { name := "fnExactConstants", fn := fun _ => fun
  | [] => { results := [.lit (.bool true)], args := [] }
  | _ => none }
def fnExactConstantsRow : OpenClaim := { program := "ytjkbpcbnfkangaa", sum := "5aba10526e70df5afb27f2f96cca58d5394dc346fa31e51cb629d471f1c8a755", func := "loop.example/s03010/laws.FnExactConstants", spec := "fnExactConstants", apart := false }
def FnExactConstantsSaid : Prop := fnExactConstantsRow.holds Try.pinned (OpenSpec.ofChange fnExactConstantsSpec)

/-- ITS FALSE NEIGHBOUR: 'it returns false'. Refute it at one input. -/
def fnExactConstantsWrong : ChangeSpec := { name := "fnExactConstants", fn := fun _ => fun
  | [] => { results := [.lit (.bool false)], args := [] }
  | _ => none }
def FnExactConstantsWrongFalsely : Prop := fnExactConstantsRow.holds Try.pinned (OpenSpec.ofChange fnExactConstantsWrong)

/-- 'laws.FnExactSerialDistance': WHATEVER THE INPUT: true; the input reads as it did. -/
def fnExactSerialDistanceSpec : ChangeSpec := { name := "fnExactSerialDistance", fn := fun _ => fun
  | [d1, d2] => { results := [.lit (.bool true)], args := [d1, d2] }
  | _ => none }
def fnExactSerialDistanceRow : OpenClaim := { program := "ytjkbpcbnfkangaa", sum := "5aba10526e70df5afb27f2f96cca58d5394dc346fa31e51cb629d471f1c8a755", func := "loop.example/s03010/laws.FnExactSerialDistance", spec := "fnExactSerialDistance", apart := false }
def FnExactSerialDistanceSaid : Prop := fnExactSerialDistanceRow.holds Try.pinned (OpenSpec.ofChange fnExactSerialDistanceSpec)

/-- ITS FALSE NEIGHBOUR: 'it returns false'. Refute it at one input. -/
def fnExactSerialDistanceWrong : ChangeSpec := { name := "fnExactSerialDistance", fn := fun _ => fun
  | [d1, d2] => { results := [.lit (.bool false)], args := [d1, d2] }
  | _ => none }
def FnExactSerialDistanceWrongFalsely : Prop := fnExactSerialDistanceRow.holds Try.pinned (OpenSpec.ofChange fnExactSerialDistanceWrong)

/-- 'laws.FnExactSerialLess': WHATEVER THE INPUT: true; the input reads as it did. -/
def fnExactSerialLessSpec : ChangeSpec := { name := "fnExactSerialLess", fn := fun _ => fun
  | [d1, d2] => { results := [.lit (.bool true)], args := [d1, d2] }
  | _ => none }
def fnExactSerialLessRow : OpenClaim := { program := "ytjkbpcbnfkangaa", sum := "5aba10526e70df5afb27f2f96cca58d5394dc346fa31e51cb629d471f1c8a755", func := "loop.example/s03010/laws.FnExactSerialLess", spec := "fnExactSerialLess", apart := false }
def FnExactSerialLessSaid : Prop := fnExactSerialLessRow.holds Try.pinned (OpenSpec.ofChange fnExactSerialLessSpec)

/-- ITS FALSE NEIGHBOUR: 'it returns false'. Refute it at one input. -/
def fnExactSerialLessWrong : ChangeSpec := { name := "fnExactSerialLess", fn := fun _ => fun
  | [d1, d2] => { results := [.lit (.bool false)], args := [d1, d2] }
  | _ => none }
def FnExactSerialLessWrongFalsely : Prop := fnExactSerialLessRow.holds Try.pinned (OpenSpec.ofChange fnExactSerialLessWrong)

/-- 'laws.FnExactLift': WHATEVER THE INPUT: true; the input reads as it did. -/
def fnExactLiftSpec : ChangeSpec := { name := "fnExactLift", fn := fun _ => fun
  | [d1, d2] => { results := [.lit (.bool true)], args := [d1, d2] }
  | _ => none }
def fnExactLiftRow : OpenClaim := { program := "ytjkbpcbnfkangaa", sum := "5aba10526e70df5afb27f2f96cca58d5394dc346fa31e51cb629d471f1c8a755", func := "loop.example/s03010/laws.FnExactLift", spec := "fnExactLift", apart := false }
def FnExactLiftSaid : Prop := fnExactLiftRow.holds Try.pinned (OpenSpec.ofChange fnExactLiftSpec)

/-- ITS FALSE NEIGHBOUR: 'it returns false'. Refute it at one input. -/
def fnExactLiftWrong : ChangeSpec := { name := "fnExactLift", fn := fun _ => fun
  | [d1, d2] => { results := [.lit (.bool false)], args := [d1, d2] }
  | _ => none }
def FnExactLiftWrongFalsely : Prop := fnExactLiftRow.holds Try.pinned (OpenSpec.ofChange fnExactLiftWrong)

/-- 'laws.FnExactCrc32': WHATEVER THE INPUT: true; the input reads as it did. -/
def fnExactCrc32Spec : ChangeSpec := { name := "fnExactCrc32", fn := fun _ => fun
  | [d] => { results := [.lit (.bool true)], args := [d] }
  | _ => none }
def fnExactCrc32Row : OpenClaim := { program := "ytjkbpcbnfkangaa", sum := "5aba10526e70df5afb27f2f96cca58d5394dc346fa31e51cb629d471f1c8a755", func := "loop.example/s03010/laws.FnExactCrc32", spec := "fnExactCrc32", apart := false }
def FnExactCrc32Said : Prop := fnExactCrc32Row.holds Try.pinned (OpenSpec.ofChange fnExactCrc32Spec)

/-- ITS FALSE NEIGHBOUR: 'it returns false'. Refute it at one input. -/
def fnExactCrc32Wrong : ChangeSpec := { name := "fnExactCrc32", fn := fun _ => fun
  | [d] => { results := [.lit (.bool false)], args := [d] }
  | _ => none }
def FnExactCrc32WrongFalsely : Prop := fnExactCrc32Row.holds Try.pinned (OpenSpec.ofChange fnExactCrc32Wrong)

/-- 'laws.FnSerial': WHATEVER THE INPUT: true; the input reads as it did. -/
def fnSerialSpec : ChangeSpec := { name := "fnSerial", fn := fun _ => fun
  | [d1, d2] => { results := [.lit (.bool true)], args := [d1, d2] }
  | _ => none }
def fnSerialRow : OpenClaim := { program := "ytjkbpcbnfkangaa", sum := "5aba10526e70df5afb27f2f96cca58d5394dc346fa31e51cb629d471f1c8a755", func := "loop.example/s03010/laws.FnSerial", spec := "fnSerial", apart := false }
def FnSerialSaid : Prop := fnSerialRow.holds Try.pinned (OpenSpec.ofChange fnSerialSpec)

/-- ITS FALSE NEIGHBOUR: 'it returns false'. Refute it at one input. -/
def fnSerialWrong : ChangeSpec := { name := "fnSerial", fn := fun _ => fun
  | [d1, d2] => { results := [.lit (.bool false)], args := [d1, d2] }
  | _ => none }
def FnSerialWrongFalsely : Prop := fnSerialRow.holds Try.pinned (OpenSpec.ofChange fnSerialWrong)

/-- 'laws.FnExactFairBound': WHATEVER THE INPUT: true; the input reads as it did. -/
def fnExactFairBoundSpec : ChangeSpec := { name := "fnExactFairBound", fn := fun _ => fun
  | [d1, d2] => { results := [.lit (.bool true)], args := [d1, d2] }
  | _ => none }
def fnExactFairBoundRow : OpenClaim := { program := "ytjkbpcbnfkangaa", sum := "5aba10526e70df5afb27f2f96cca58d5394dc346fa31e51cb629d471f1c8a755", func := "loop.example/s03010/laws.FnExactFairBound", spec := "fnExactFairBound", apart := false }
def FnExactFairBoundSaid : Prop := fnExactFairBoundRow.holds Try.pinned (OpenSpec.ofChange fnExactFairBoundSpec)

/-- ITS FALSE NEIGHBOUR: 'it returns false'. Refute it at one input. -/
def fnExactFairBoundWrong : ChangeSpec := { name := "fnExactFairBound", fn := fun _ => fun
  | [d1, d2] => { results := [.lit (.bool false)], args := [d1, d2] }
  | _ => none }
def FnExactFairBoundWrongFalsely : Prop := fnExactFairBoundRow.holds Try.pinned (OpenSpec.ofChange fnExactFairBoundWrong)

/-- 'laws.FnExactRecvRun': WHATEVER THE INPUT: true; the input reads as it did. -/
def fnExactRecvRunSpec : ChangeSpec := { name := "fnExactRecvRun", fn := fun _ => fun
  | [d1, d2] => { results := [.lit (.bool true)], args := [d1, d2] }
  | _ => none }
def fnExactRecvRunRow : OpenClaim := { program := "ytjkbpcbnfkangaa", sum := "5aba10526e70df5afb27f2f96cca58d5394dc346fa31e51cb629d471f1c8a755", func := "loop.example/s03010/laws.FnExactRecvRun", spec := "fnExactRecvRun", apart := false }
def FnExactRecvRunSaid : Prop := fnExactRecvRunRow.holds Try.pinned (OpenSpec.ofChange fnExactRecvRunSpec)

/-- ITS FALSE NEIGHBOUR: 'it returns false'. Refute it at one input. -/
def fnExactRecvRunWrong : ChangeSpec := { name := "fnExactRecvRun", fn := fun _ => fun
  | [d1, d2] => { results := [.lit (.bool false)], args := [d1, d2] }
  | _ => none }
def FnExactRecvRunWrongFalsely : Prop := fnExactRecvRunRow.holds Try.pinned (OpenSpec.ofChange fnExactRecvRunWrong)

/-- 'laws.FnExactSpanSize': WHATEVER THE INPUT: true; the input reads as it did. -/
def fnExactSpanSizeSpec : ChangeSpec := { name := "fnExactSpanSize", fn := fun _ => fun
  | [d1, d2] => { results := [.lit (.bool true)], args := [d1, d2] }
  | _ => none }
def fnExactSpanSizeRow : OpenClaim := { program := "ytjkbpcbnfkangaa", sum := "5aba10526e70df5afb27f2f96cca58d5394dc346fa31e51cb629d471f1c8a755", func := "loop.example/s03010/laws.FnExactSpanSize", spec := "fnExactSpanSize", apart := false }
def FnExactSpanSizeSaid : Prop := fnExactSpanSizeRow.holds Try.pinned (OpenSpec.ofChange fnExactSpanSizeSpec)

/-- ITS FALSE NEIGHBOUR: 'it returns false'. Refute it at one input. -/
def fnExactSpanSizeWrong : ChangeSpec := { name := "fnExactSpanSize", fn := fun _ => fun
  | [d1, d2] => { results := [.lit (.bool false)], args := [d1, d2] }
  | _ => none }
def FnExactSpanSizeWrongFalsely : Prop := fnExactSpanSizeRow.holds Try.pinned (OpenSpec.ofChange fnExactSpanSizeWrong)

/-- 'laws.FnExactSpanHas': WHATEVER THE INPUT: true; the input reads as it did. -/
def fnExactSpanHasSpec : ChangeSpec := { name := "fnExactSpanHas", fn := fun _ => fun
  | [d1, d2] => { results := [.lit (.bool true)], args := [d1, d2] }
  | _ => none }
def fnExactSpanHasRow : OpenClaim := { program := "ytjkbpcbnfkangaa", sum := "5aba10526e70df5afb27f2f96cca58d5394dc346fa31e51cb629d471f1c8a755", func := "loop.example/s03010/laws.FnExactSpanHas", spec := "fnExactSpanHas", apart := false }
def FnExactSpanHasSaid : Prop := fnExactSpanHasRow.holds Try.pinned (OpenSpec.ofChange fnExactSpanHasSpec)

/-- ITS FALSE NEIGHBOUR: 'it returns false'. Refute it at one input. -/
def fnExactSpanHasWrong : ChangeSpec := { name := "fnExactSpanHas", fn := fun _ => fun
  | [d1, d2] => { results := [.lit (.bool false)], args := [d1, d2] }
  | _ => none }
def FnExactSpanHasWrongFalsely : Prop := fnExactSpanHasRow.holds Try.pinned (OpenSpec.ofChange fnExactSpanHasWrong)

/-- 'laws.FnExactSpanCut': WHATEVER THE INPUT: true; the input reads as it did. -/
def fnExactSpanCutSpec : ChangeSpec := { name := "fnExactSpanCut", fn := fun _ => fun
  | [d1, d2] => { results := [.lit (.bool true)], args := [d1, d2] }
  | _ => none }
def fnExactSpanCutRow : OpenClaim := { program := "ytjkbpcbnfkangaa", sum := "5aba10526e70df5afb27f2f96cca58d5394dc346fa31e51cb629d471f1c8a755", func := "loop.example/s03010/laws.FnExactSpanCut", spec := "fnExactSpanCut", apart := false }
def FnExactSpanCutSaid : Prop := fnExactSpanCutRow.holds Try.pinned (OpenSpec.ofChange fnExactSpanCutSpec)

/-- ITS FALSE NEIGHBOUR: 'it returns false'. Refute it at one input. -/
def fnExactSpanCutWrong : ChangeSpec := { name := "fnExactSpanCut", fn := fun _ => fun
  | [d1, d2] => { results := [.lit (.bool false)], args := [d1, d2] }
  | _ => none }
def FnExactSpanCutWrongFalsely : Prop := fnExactSpanCutRow.holds Try.pinned (OpenSpec.ofChange fnExactSpanCutWrong)

/-- 'laws.FnExactSpanGaps': WHATEVER THE INPUT: true; the input reads as it did. -/
def fnExactSpanGapsSpec : ChangeSpec := { name := "fnExactSpanGaps", fn := fun _ => fun
  | [d1, d2] => { results := [.lit (.bool true)], args := [d1, d2] }
  | _ => none }
def fnExactSpanGapsRow : OpenClaim := { program := "ytjkbpcbnfkangaa", sum := "5aba10526e70df5afb27f2f96cca58d5394dc346fa31e51cb629d471f1c8a755", func := "loop.example/s03010/laws.FnExactSpanGaps", spec := "fnExactSpanGaps", apart := false }
def FnExactSpanGapsSaid : Prop := fnExactSpanGapsRow.holds Try.pinned (OpenSpec.ofChange fnExactSpanGapsSpec)

/-- ITS FALSE NEIGHBOUR: 'it returns false'. Refute it at one input. -/
def fnExactSpanGapsWrong : ChangeSpec := { name := "fnExactSpanGaps", fn := fun _ => fun
  | [d1, d2] => { results := [.lit (.bool false)], args := [d1, d2] }
  | _ => none }
def FnExactSpanGapsWrongFalsely : Prop := fnExactSpanGapsRow.holds Try.pinned (OpenSpec.ofChange fnExactSpanGapsWrong)

/- THE SECOND FORM. 'bulk': how many values and letters a reading holds, each counted each time it is reached (what is shared counts as often as it is met; a slice's spare places count too). A statement '..UptoSaid' is the law's where the arguments, and the package variables that the reading takes, are together of bulk at most 1048576: NARROWER than '..Said'. Prove '..Said' where nothing that the law and all that it calls make is longer than what came in: it says more and counts as full. Else prove '..UptoSaid'. A law counts once. -/
mutual
def uptoBulk {H : Type} : DataW H → Nat
  | .lit (.string bytes) => bytes.length + 1
  | .lit _ => 1
  | .nil => 1
  | .ptr d => uptoBulk d + 1
  | .slice elems spare => uptoBulkAll elems + uptoBulkAll spare + 1
  | .agg parts => uptoBulkAll parts + 1
  | .iface _ d => uptoBulk d + 1
  | .map entries => uptoBulkEntries entries + 1
  | .held _ => 1
def uptoBulkAll {H : Type} : List (DataW H) → Nat
  | [] => 0
  | d :: r => uptoBulk d + uptoBulkAll r
def uptoBulkEntries {H : Type} : List (Lit × DataW H) → Nat
  | [] => 0
  | x :: r => uptoBulkEntry x + uptoBulkEntries r
def uptoBulkEntry {H : Type} : Lit × DataW H → Nat
  | (.string bytes, d) => bytes.length + uptoBulk d + 1
  | (_, d) => uptoBulk d + 1
 end
def uptoSmall : (H : Type) → List (DataW H) → Bool := fun _ ds => decide (uptoBulkAll ds ≤ 1048576)
def OpenSpec.upto (s : _root_.Go.ChangeSpec) : _root_.Go.OpenSpec := { _root_.Go.OpenSpec.ofChange s with cond := some uptoSmall }

/-- 'laws.FnExactConstants', WHERE WHAT IT READS IS OF BULK AT MOST 1048576: true; the input reads as it did. -/
def fnExactConstantsUptoRow : OpenClaim := { program := "ytjkbpcbnfkangaa", sum := "5aba10526e70df5afb27f2f96cca58d5394dc346fa31e51cb629d471f1c8a755", func := "loop.example/s03010/laws.FnExactConstants", spec := "fnExactConstants", apart := false, narrowed := true }
def FnExactConstantsUptoSaid : Prop := fnExactConstantsUptoRow.holds Try.pinned (OpenSpec.upto fnExactConstantsSpec)

/-- 'laws.FnExactSerialDistance', WHERE WHAT IT READS IS OF BULK AT MOST 1048576: true; the input reads as it did. -/
def fnExactSerialDistanceUptoRow : OpenClaim := { program := "ytjkbpcbnfkangaa", sum := "5aba10526e70df5afb27f2f96cca58d5394dc346fa31e51cb629d471f1c8a755", func := "loop.example/s03010/laws.FnExactSerialDistance", spec := "fnExactSerialDistance", apart := false, narrowed := true }
def FnExactSerialDistanceUptoSaid : Prop := fnExactSerialDistanceUptoRow.holds Try.pinned (OpenSpec.upto fnExactSerialDistanceSpec)

/-- 'laws.FnExactSerialLess', WHERE WHAT IT READS IS OF BULK AT MOST 1048576: true; the input reads as it did. -/
def fnExactSerialLessUptoRow : OpenClaim := { program := "ytjkbpcbnfkangaa", sum := "5aba10526e70df5afb27f2f96cca58d5394dc346fa31e51cb629d471f1c8a755", func := "loop.example/s03010/laws.FnExactSerialLess", spec := "fnExactSerialLess", apart := false, narrowed := true }
def FnExactSerialLessUptoSaid : Prop := fnExactSerialLessUptoRow.holds Try.pinned (OpenSpec.upto fnExactSerialLessSpec)

/-- 'laws.FnExactLift', WHERE WHAT IT READS IS OF BULK AT MOST 1048576: true; the input reads as it did. -/
def fnExactLiftUptoRow : OpenClaim := { program := "ytjkbpcbnfkangaa", sum := "5aba10526e70df5afb27f2f96cca58d5394dc346fa31e51cb629d471f1c8a755", func := "loop.example/s03010/laws.FnExactLift", spec := "fnExactLift", apart := false, narrowed := true }
def FnExactLiftUptoSaid : Prop := fnExactLiftUptoRow.holds Try.pinned (OpenSpec.upto fnExactLiftSpec)

/-- 'laws.FnExactCrc32', WHERE WHAT IT READS IS OF BULK AT MOST 1048576: true; the input reads as it did. -/
def fnExactCrc32UptoRow : OpenClaim := { program := "ytjkbpcbnfkangaa", sum := "5aba10526e70df5afb27f2f96cca58d5394dc346fa31e51cb629d471f1c8a755", func := "loop.example/s03010/laws.FnExactCrc32", spec := "fnExactCrc32", apart := false, narrowed := true }
def FnExactCrc32UptoSaid : Prop := fnExactCrc32UptoRow.holds Try.pinned (OpenSpec.upto fnExactCrc32Spec)

/-- 'laws.FnSerial', WHERE WHAT IT READS IS OF BULK AT MOST 1048576: true; the input reads as it did. -/
def fnSerialUptoRow : OpenClaim := { program := "ytjkbpcbnfkangaa", sum := "5aba10526e70df5afb27f2f96cca58d5394dc346fa31e51cb629d471f1c8a755", func := "loop.example/s03010/laws.FnSerial", spec := "fnSerial", apart := false, narrowed := true }
def FnSerialUptoSaid : Prop := fnSerialUptoRow.holds Try.pinned (OpenSpec.upto fnSerialSpec)

/-- 'laws.FnExactFairBound', WHERE WHAT IT READS IS OF BULK AT MOST 1048576: true; the input reads as it did. -/
def fnExactFairBoundUptoRow : OpenClaim := { program := "ytjkbpcbnfkangaa", sum := "5aba10526e70df5afb27f2f96cca58d5394dc346fa31e51cb629d471f1c8a755", func := "loop.example/s03010/laws.FnExactFairBound", spec := "fnExactFairBound", apart := false, narrowed := true }
def FnExactFairBoundUptoSaid : Prop := fnExactFairBoundUptoRow.holds Try.pinned (OpenSpec.upto fnExactFairBoundSpec)

/-- 'laws.FnExactRecvRun', WHERE WHAT IT READS IS OF BULK AT MOST 1048576: true; the input reads as it did. -/
def fnExactRecvRunUptoRow : OpenClaim := { program := "ytjkbpcbnfkangaa", sum := "5aba10526e70df5afb27f2f96cca58d5394dc346fa31e51cb629d471f1c8a755", func := "loop.example/s03010/laws.FnExactRecvRun", spec := "fnExactRecvRun", apart := false, narrowed := true }
def FnExactRecvRunUptoSaid : Prop := fnExactRecvRunUptoRow.holds Try.pinned (OpenSpec.upto fnExactRecvRunSpec)

/-- 'laws.FnExactSpanSize', WHERE WHAT IT READS IS OF BULK AT MOST 1048576: true; the input reads as it did. -/
def fnExactSpanSizeUptoRow : OpenClaim := { program := "ytjkbpcbnfkangaa", sum := "5aba10526e70df5afb27f2f96cca58d5394dc346fa31e51cb629d471f1c8a755", func := "loop.example/s03010/laws.FnExactSpanSize", spec := "fnExactSpanSize", apart := false, narrowed := true }
def FnExactSpanSizeUptoSaid : Prop := fnExactSpanSizeUptoRow.holds Try.pinned (OpenSpec.upto fnExactSpanSizeSpec)

/-- 'laws.FnExactSpanHas', WHERE WHAT IT READS IS OF BULK AT MOST 1048576: true; the input reads as it did. -/
def fnExactSpanHasUptoRow : OpenClaim := { program := "ytjkbpcbnfkangaa", sum := "5aba10526e70df5afb27f2f96cca58d5394dc346fa31e51cb629d471f1c8a755", func := "loop.example/s03010/laws.FnExactSpanHas", spec := "fnExactSpanHas", apart := false, narrowed := true }
def FnExactSpanHasUptoSaid : Prop := fnExactSpanHasUptoRow.holds Try.pinned (OpenSpec.upto fnExactSpanHasSpec)

/-- 'laws.FnExactSpanCut', WHERE WHAT IT READS IS OF BULK AT MOST 1048576: true; the input reads as it did. -/
def fnExactSpanCutUptoRow : OpenClaim := { program := "ytjkbpcbnfkangaa", sum := "5aba10526e70df5afb27f2f96cca58d5394dc346fa31e51cb629d471f1c8a755", func := "loop.example/s03010/laws.FnExactSpanCut", spec := "fnExactSpanCut", apart := false, narrowed := true }
def FnExactSpanCutUptoSaid : Prop := fnExactSpanCutUptoRow.holds Try.pinned (OpenSpec.upto fnExactSpanCutSpec)

/-- 'laws.FnExactSpanGaps', WHERE WHAT IT READS IS OF BULK AT MOST 1048576: true; the input reads as it did. -/
def fnExactSpanGapsUptoRow : OpenClaim := { program := "ytjkbpcbnfkangaa", sum := "5aba10526e70df5afb27f2f96cca58d5394dc346fa31e51cb629d471f1c8a755", func := "loop.example/s03010/laws.FnExactSpanGaps", spec := "fnExactSpanGaps", apart := false, narrowed := true }
def FnExactSpanGapsUptoSaid : Prop := fnExactSpanGapsUptoRow.holds Try.pinned (OpenSpec.upto fnExactSpanGapsSpec)

end Rows
end Go.Proofs.Ytjkbpcbnfkangaa
