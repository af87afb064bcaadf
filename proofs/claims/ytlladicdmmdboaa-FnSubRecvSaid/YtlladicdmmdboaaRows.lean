/-
  No cell of these rows narrows 'for every input' (looked for: loops, veiled, ifaces, maps, wideKeys, modest, calm, conditions, laid).
  DERIVED. THE GIVEN ROWS OF THIS SEAT. 10 by the template 'for every input the law returns true; each argument reads behind the call as it read before'; 0 by the template 'total and deterministic' (their statements: YtlladicdmmdboaaTotals.lean).
  GIVEN WITH THE SEED: the statements are not yours to turn. If you find one false, say at which input.
  Laid BY PROGRAM, IN A SANDBOX (cutbox-rows.mjs): the forced cells as the released guide's own fill.sh prints them over the translation c7552804e7d52594… (all of the seat's roots in one cut). By AI agents, Wed Nov 11 2026. No macro, syntax, notation, axiom, sorry.
-/
import Derived.Test.YtlladicdmmdboaaChecked
import GoSem.Claim
import GoSem.ClaimJoined
import GoSem.ClaimMapViews
import Derived.JoinedTies
import Derived.KernelRfl
namespace Go.Proofs.Ytlladicdmmdboaa
/- THE CELL 'sum', in the pinned program and in every row, IS THE sha256 OF THE DUMP (.gsa) THAT YtlladicdmmdboaaProg.lean LOADS. Nothing in Lean hashes anything: it is a label: what it is worth is what the hold of that sum in a sandbox is worth. -/
noncomputable def Try.pinned : Pinned := { name := "ytlladicdmmdboaa", sum := "c7552804e7d52594c41b0c57571270d562b8956e3226a2dfcdfa231af5b7d712", checked := Try.checked }
namespace Rows
def none {H : Type} : Left H := { results := [], args := [] }

/-- 'laws.FnNet': WHATEVER THE INPUT: true; the input reads as it did. -/
def fnNetSpec : ChangeSpec := { name := "fnNet", fn := fun _ => fun
  | [d] => { results := [.lit (.bool true)], args := [d] }
  | _ => none }
def fnNetRow : OpenClaim := { program := "ytlladicdmmdboaa", sum := "c7552804e7d52594c41b0c57571270d562b8956e3226a2dfcdfa231af5b7d712", func := "loop.example/s03010/laws.FnNet", spec := "fnNet", apart := false }
def FnNetSaid : Prop := fnNetRow.holds Try.pinned (OpenSpec.ofChange fnNetSpec)

/-- ITS FALSE NEIGHBOUR: 'it returns false'. Refute it at one input. -/
def fnNetWrong : ChangeSpec := { name := "fnNet", fn := fun _ => fun
  | [d] => { results := [.lit (.bool false)], args := [d] }
  | _ => none }
def FnNetWrongFalsely : Prop := fnNetRow.holds Try.pinned (OpenSpec.ofChange fnNetWrong)

/-- 'laws.FnExactNetRun': WHATEVER THE INPUT: true; the input reads as it did. -/
def fnExactNetRunSpec : ChangeSpec := { name := "fnExactNetRun", fn := fun _ => fun
  | [d1, d2] => { results := [.lit (.bool true)], args := [d1, d2] }
  | _ => none }
def fnExactNetRunRow : OpenClaim := { program := "ytlladicdmmdboaa", sum := "c7552804e7d52594c41b0c57571270d562b8956e3226a2dfcdfa231af5b7d712", func := "loop.example/s03010/laws.FnExactNetRun", spec := "fnExactNetRun", apart := false }
def FnExactNetRunSaid : Prop := fnExactNetRunRow.holds Try.pinned (OpenSpec.ofChange fnExactNetRunSpec)

/-- ITS FALSE NEIGHBOUR: 'it returns false'. Refute it at one input. -/
def fnExactNetRunWrong : ChangeSpec := { name := "fnExactNetRun", fn := fun _ => fun
  | [d1, d2] => { results := [.lit (.bool false)], args := [d1, d2] }
  | _ => none }
def FnExactNetRunWrongFalsely : Prop := fnExactNetRunRow.holds Try.pinned (OpenSpec.ofChange fnExactNetRunWrong)

/-- 'laws.FnExactNetFlight': WHATEVER THE INPUT: true; the input reads as it did. -/
def fnExactNetFlightSpec : ChangeSpec := { name := "fnExactNetFlight", fn := fun _ => fun
  | [d1, d2] => { results := [.lit (.bool true)], args := [d1, d2] }
  | _ => none }
def fnExactNetFlightRow : OpenClaim := { program := "ytlladicdmmdboaa", sum := "c7552804e7d52594c41b0c57571270d562b8956e3226a2dfcdfa231af5b7d712", func := "loop.example/s03010/laws.FnExactNetFlight", spec := "fnExactNetFlight", apart := false }
def FnExactNetFlightSaid : Prop := fnExactNetFlightRow.holds Try.pinned (OpenSpec.ofChange fnExactNetFlightSpec)

/-- ITS FALSE NEIGHBOUR: 'it returns false'. Refute it at one input. -/
def fnExactNetFlightWrong : ChangeSpec := { name := "fnExactNetFlight", fn := fun _ => fun
  | [d1, d2] => { results := [.lit (.bool false)], args := [d1, d2] }
  | _ => none }
def FnExactNetFlightWrongFalsely : Prop := fnExactNetFlightRow.holds Try.pinned (OpenSpec.ofChange fnExactNetFlightWrong)

/-- 'laws.FnDeath': WHATEVER THE INPUT: true; the input reads as it did. -/
def fnDeathSpec : ChangeSpec := { name := "fnDeath", fn := fun _ => fun
  | [d] => { results := [.lit (.bool true)], args := [d] }
  | _ => none }
def fnDeathRow : OpenClaim := { program := "ytlladicdmmdboaa", sum := "c7552804e7d52594c41b0c57571270d562b8956e3226a2dfcdfa231af5b7d712", func := "loop.example/s03010/laws.FnDeath", spec := "fnDeath", unfollowed := true, recurses := true, apart := false }
def FnDeathSaid : Prop := fnDeathRow.holds Try.pinned (OpenSpec.ofChange fnDeathSpec)

/-- ITS FALSE NEIGHBOUR: 'it returns false'. Refute it at one input. -/
def fnDeathWrong : ChangeSpec := { name := "fnDeath", fn := fun _ => fun
  | [d] => { results := [.lit (.bool false)], args := [d] }
  | _ => none }
def FnDeathWrongFalsely : Prop := fnDeathRow.holds Try.pinned (OpenSpec.ofChange fnDeathWrong)

/-- 'laws.FnSubRecv': WHATEVER THE INPUT: true; the input reads as it did. -/
def fnSubRecvSpec : ChangeSpec := { name := "fnSubRecv", fn := fun _ => fun
  | [d1, d2] => { results := [.lit (.bool true)], args := [d1, d2] }
  | _ => none }
def fnSubRecvRow : OpenClaim := { program := "ytlladicdmmdboaa", sum := "c7552804e7d52594c41b0c57571270d562b8956e3226a2dfcdfa231af5b7d712", func := "loop.example/s03010/laws.FnSubRecv", spec := "fnSubRecv", unfollowed := true, recurses := true, apart := false }
def FnSubRecvSaid : Prop := fnSubRecvRow.holds Try.pinned (OpenSpec.ofChange fnSubRecvSpec)

/-- ITS FALSE NEIGHBOUR: 'it returns false'. Refute it at one input. -/
def fnSubRecvWrong : ChangeSpec := { name := "fnSubRecv", fn := fun _ => fun
  | [d1, d2] => { results := [.lit (.bool false)], args := [d1, d2] }
  | _ => none }
def FnSubRecvWrongFalsely : Prop := fnSubRecvRow.holds Try.pinned (OpenSpec.ofChange fnSubRecvWrong)

/-- 'laws.FnExactSubRun': WHATEVER THE INPUT: true; the input reads as it did. -/
def fnExactSubRunSpec : ChangeSpec := { name := "fnExactSubRun", fn := fun _ => fun
  | [d1, d2] => { results := [.lit (.bool true)], args := [d1, d2] }
  | _ => none }
def fnExactSubRunRow : OpenClaim := { program := "ytlladicdmmdboaa", sum := "c7552804e7d52594c41b0c57571270d562b8956e3226a2dfcdfa231af5b7d712", func := "loop.example/s03010/laws.FnExactSubRun", spec := "fnExactSubRun", unfollowed := true, recurses := true, apart := false }
def FnExactSubRunSaid : Prop := fnExactSubRunRow.holds Try.pinned (OpenSpec.ofChange fnExactSubRunSpec)

/-- ITS FALSE NEIGHBOUR: 'it returns false'. Refute it at one input. -/
def fnExactSubRunWrong : ChangeSpec := { name := "fnExactSubRun", fn := fun _ => fun
  | [d1, d2] => { results := [.lit (.bool false)], args := [d1, d2] }
  | _ => none }
def FnExactSubRunWrongFalsely : Prop := fnExactSubRunRow.holds Try.pinned (OpenSpec.ofChange fnExactSubRunWrong)

/-- 'laws.FnExactSubState': WHATEVER THE INPUT: true; the input reads as it did. -/
def fnExactSubStateSpec : ChangeSpec := { name := "fnExactSubState", fn := fun _ => fun
  | [d1, d2] => { results := [.lit (.bool true)], args := [d1, d2] }
  | _ => none }
def fnExactSubStateRow : OpenClaim := { program := "ytlladicdmmdboaa", sum := "c7552804e7d52594c41b0c57571270d562b8956e3226a2dfcdfa231af5b7d712", func := "loop.example/s03010/laws.FnExactSubState", spec := "fnExactSubState", unfollowed := true, recurses := true, apart := false }
def FnExactSubStateSaid : Prop := fnExactSubStateRow.holds Try.pinned (OpenSpec.ofChange fnExactSubStateSpec)

/-- ITS FALSE NEIGHBOUR: 'it returns false'. Refute it at one input. -/
def fnExactSubStateWrong : ChangeSpec := { name := "fnExactSubState", fn := fun _ => fun
  | [d1, d2] => { results := [.lit (.bool false)], args := [d1, d2] }
  | _ => none }
def FnExactSubStateWrongFalsely : Prop := fnExactSubStateRow.holds Try.pinned (OpenSpec.ofChange fnExactSubStateWrong)

/-- 'laws.FnExactReorderRun': WHATEVER THE INPUT: true; the input reads as it did. -/
def fnExactReorderRunSpec : ChangeSpec := { name := "fnExactReorderRun", fn := fun _ => fun
  | [d1, d2, d3] => { results := [.lit (.bool true)], args := [d1, d2, d3] }
  | _ => none }
def fnExactReorderRunRow : OpenClaim := { program := "ytlladicdmmdboaa", sum := "c7552804e7d52594c41b0c57571270d562b8956e3226a2dfcdfa231af5b7d712", func := "loop.example/s03010/laws.FnExactReorderRun", spec := "fnExactReorderRun", apart := false }
def FnExactReorderRunSaid : Prop := fnExactReorderRunRow.holds Try.pinned (OpenSpec.ofChange fnExactReorderRunSpec)

/-- ITS FALSE NEIGHBOUR: 'it returns false'. Refute it at one input. -/
def fnExactReorderRunWrong : ChangeSpec := { name := "fnExactReorderRun", fn := fun _ => fun
  | [d1, d2, d3] => { results := [.lit (.bool false)], args := [d1, d2, d3] }
  | _ => none }
def FnExactReorderRunWrongFalsely : Prop := fnExactReorderRunRow.holds Try.pinned (OpenSpec.ofChange fnExactReorderRunWrong)

/-- 'laws.FnExactReorderState': WHATEVER THE INPUT: true; the input reads as it did. -/
def fnExactReorderStateSpec : ChangeSpec := { name := "fnExactReorderState", fn := fun _ => fun
  | [d1, d2, d3] => { results := [.lit (.bool true)], args := [d1, d2, d3] }
  | _ => none }
def fnExactReorderStateRow : OpenClaim := { program := "ytlladicdmmdboaa", sum := "c7552804e7d52594c41b0c57571270d562b8956e3226a2dfcdfa231af5b7d712", func := "loop.example/s03010/laws.FnExactReorderState", spec := "fnExactReorderState", unfollowed := true, recurses := true, apart := false }
def FnExactReorderStateSaid : Prop := fnExactReorderStateRow.holds Try.pinned (OpenSpec.ofChange fnExactReorderStateSpec)

/-- ITS FALSE NEIGHBOUR: 'it returns false'. Refute it at one input. -/
def fnExactReorderStateWrong : ChangeSpec := { name := "fnExactReorderState", fn := fun _ => fun
  | [d1, d2, d3] => { results := [.lit (.bool false)], args := [d1, d2, d3] }
  | _ => none }
def FnExactReorderStateWrongFalsely : Prop := fnExactReorderStateRow.holds Try.pinned (OpenSpec.ofChange fnExactReorderStateWrong)

/-- 'laws.FnReorder': WHATEVER THE INPUT: true; the input reads as it did. -/
def fnReorderSpec : ChangeSpec := { name := "fnReorder", fn := fun _ => fun
  | [d] => { results := [.lit (.bool true)], args := [d] }
  | _ => none }
def fnReorderRow : OpenClaim := { program := "ytlladicdmmdboaa", sum := "c7552804e7d52594c41b0c57571270d562b8956e3226a2dfcdfa231af5b7d712", func := "loop.example/s03010/laws.FnReorder", spec := "fnReorder", unfollowed := true, recurses := true, apart := false }
def FnReorderSaid : Prop := fnReorderRow.holds Try.pinned (OpenSpec.ofChange fnReorderSpec)

/-- ITS FALSE NEIGHBOUR: 'it returns false'. Refute it at one input. -/
def fnReorderWrong : ChangeSpec := { name := "fnReorder", fn := fun _ => fun
  | [d] => { results := [.lit (.bool false)], args := [d] }
  | _ => none }
def FnReorderWrongFalsely : Prop := fnReorderRow.holds Try.pinned (OpenSpec.ofChange fnReorderWrong)

/- THE SECOND FORM. 'bulk': how many values and letters a reading holds, each counted each time it is reached (what is shared counts as often as it is met; a slice's spare places count too). A statement '..UptoSaid' is the law's where the arguments, and the package variables that the reading takes, are together of bulk at most 1048576: NARROWER than '..Said'. Prove '..Said' where nothing that the law and all that it calls make is longer than what came in: it says more and counts as full. Else prove '..UptoSaid'. A law counts once. -/
mutual
def uptoBulk {H : Type} : DataW H → Nat
  | .lit (.string bytes) => bytes.length + 1
  | .lit _ => 1
  | .nil => 1
  | .ptr d => uptoBulk d + 1
  | .slice elems spare => uptoBulkAll elems + uptoBulkAll spare + 1
  | .agg parts => uptoBulkAll parts + 1
  | .iface _ d => uptoBulk d + 1
  | .map entries => uptoBulkEntries entries + 1
  | .held _ => 1
def uptoBulkAll {H : Type} : List (DataW H) → Nat
  | [] => 0
  | d :: r => uptoBulk d + uptoBulkAll r
def uptoBulkEntries {H : Type} : List (Lit × DataW H) → Nat
  | [] => 0
  | x :: r => uptoBulkEntry x + uptoBulkEntries r
def uptoBulkEntry {H : Type} : Lit × DataW H → Nat
  | (.string bytes, d) => bytes.length + uptoBulk d + 1
  | (_, d) => uptoBulk d + 1
 end
def uptoSmall : (H : Type) → List (DataW H) → Bool := fun _ ds => decide (uptoBulkAll ds ≤ 1048576)
def OpenSpec.upto (s : _root_.Go.ChangeSpec) : _root_.Go.OpenSpec := { _root_.Go.OpenSpec.ofChange s with cond := some uptoSmall }

/-- 'laws.FnNet', WHERE WHAT IT READS IS OF BULK AT MOST 1048576: true; the input reads as it did. -/
def fnNetUptoRow : OpenClaim := { program := "ytlladicdmmdboaa", sum := "c7552804e7d52594c41b0c57571270d562b8956e3226a2dfcdfa231af5b7d712", func := "loop.example/s03010/laws.FnNet", spec := "fnNet", apart := false, narrowed := true }
def FnNetUptoSaid : Prop := fnNetUptoRow.holds Try.pinned (OpenSpec.upto fnNetSpec)

/-- 'laws.FnExactNetRun', WHERE WHAT IT READS IS OF BULK AT MOST 1048576: true; the input reads as it did. -/
def fnExactNetRunUptoRow : OpenClaim := { program := "ytlladicdmmdboaa", sum := "c7552804e7d52594c41b0c57571270d562b8956e3226a2dfcdfa231af5b7d712", func := "loop.example/s03010/laws.FnExactNetRun", spec := "fnExactNetRun", apart := false, narrowed := true }
def FnExactNetRunUptoSaid : Prop := fnExactNetRunUptoRow.holds Try.pinned (OpenSpec.upto fnExactNetRunSpec)

/-- 'laws.FnExactNetFlight', WHERE WHAT IT READS IS OF BULK AT MOST 1048576: true; the input reads as it did. -/
def fnExactNetFlightUptoRow : OpenClaim := { program := "ytlladicdmmdboaa", sum := "c7552804e7d52594c41b0c57571270d562b8956e3226a2dfcdfa231af5b7d712", func := "loop.example/s03010/laws.FnExactNetFlight", spec := "fnExactNetFlight", apart := false, narrowed := true }
def FnExactNetFlightUptoSaid : Prop := fnExactNetFlightUptoRow.holds Try.pinned (OpenSpec.upto fnExactNetFlightSpec)

/-- 'laws.FnDeath', WHERE WHAT IT READS IS OF BULK AT MOST 1048576: true; the input reads as it did. -/
def fnDeathUptoRow : OpenClaim := { program := "ytlladicdmmdboaa", sum := "c7552804e7d52594c41b0c57571270d562b8956e3226a2dfcdfa231af5b7d712", func := "loop.example/s03010/laws.FnDeath", spec := "fnDeath", unfollowed := true, recurses := true, apart := false, narrowed := true }
def FnDeathUptoSaid : Prop := fnDeathUptoRow.holds Try.pinned (OpenSpec.upto fnDeathSpec)

/-- 'laws.FnSubRecv', WHERE WHAT IT READS IS OF BULK AT MOST 1048576: true; the input reads as it did. -/
def fnSubRecvUptoRow : OpenClaim := { program := "ytlladicdmmdboaa", sum := "c7552804e7d52594c41b0c57571270d562b8956e3226a2dfcdfa231af5b7d712", func := "loop.example/s03010/laws.FnSubRecv", spec := "fnSubRecv", unfollowed := true, recurses := true, apart := false, narrowed := true }
def FnSubRecvUptoSaid : Prop := fnSubRecvUptoRow.holds Try.pinned (OpenSpec.upto fnSubRecvSpec)

/-- 'laws.FnExactSubRun', WHERE WHAT IT READS IS OF BULK AT MOST 1048576: true; the input reads as it did. -/
def fnExactSubRunUptoRow : OpenClaim := { program := "ytlladicdmmdboaa", sum := "c7552804e7d52594c41b0c57571270d562b8956e3226a2dfcdfa231af5b7d712", func := "loop.example/s03010/laws.FnExactSubRun", spec := "fnExactSubRun", unfollowed := true, recurses := true, apart := false, narrowed := true }
def FnExactSubRunUptoSaid : Prop := fnExactSubRunUptoRow.holds Try.pinned (OpenSpec.upto fnExactSubRunSpec)

/-- 'laws.FnExactSubState', WHERE WHAT IT READS IS OF BULK AT MOST 1048576: true; the input reads as it did. -/
def fnExactSubStateUptoRow : OpenClaim := { program := "ytlladicdmmdboaa", sum := "c7552804e7d52594c41b0c57571270d562b8956e3226a2dfcdfa231af5b7d712", func := "loop.example/s03010/laws.FnExactSubState", spec := "fnExactSubState", unfollowed := true, recurses := true, apart := false, narrowed := true }
def FnExactSubStateUptoSaid : Prop := fnExactSubStateUptoRow.holds Try.pinned (OpenSpec.upto fnExactSubStateSpec)

/-- 'laws.FnExactReorderRun', WHERE WHAT IT READS IS OF BULK AT MOST 1048576: true; the input reads as it did. -/
def fnExactReorderRunUptoRow : OpenClaim := { program := "ytlladicdmmdboaa", sum := "c7552804e7d52594c41b0c57571270d562b8956e3226a2dfcdfa231af5b7d712", func := "loop.example/s03010/laws.FnExactReorderRun", spec := "fnExactReorderRun", apart := false, narrowed := true }
def FnExactReorderRunUptoSaid : Prop := fnExactReorderRunUptoRow.holds Try.pinned (OpenSpec.upto fnExactReorderRunSpec)

/-- 'laws.FnExactReorderState', WHERE WHAT IT READS IS OF BULK AT MOST 1048576: true; the input reads as it did. -/
def fnExactReorderStateUptoRow : OpenClaim := { program := "ytlladicdmmdboaa", sum := "c7552804e7d52594c41b0c57571270d562b8956e3226a2dfcdfa231af5b7d712", func := "loop.example/s03010/laws.FnExactReorderState", spec := "fnExactReorderState", unfollowed := true, recurses := true, apart := false, narrowed := true }
def FnExactReorderStateUptoSaid : Prop := fnExactReorderStateUptoRow.holds Try.pinned (OpenSpec.upto fnExactReorderStateSpec)

/-- 'laws.FnReorder', WHERE WHAT IT READS IS OF BULK AT MOST 1048576: true; the input reads as it did. -/
def fnReorderUptoRow : OpenClaim := { program := "ytlladicdmmdboaa", sum := "c7552804e7d52594c41b0c57571270d562b8956e3226a2dfcdfa231af5b7d712", func := "loop.example/s03010/laws.FnReorder", spec := "fnReorder", unfollowed := true, recurses := true, apart := false, narrowed := true }
def FnReorderUptoSaid : Prop := fnReorderUptoRow.holds Try.pinned (OpenSpec.upto fnReorderSpec)

end Rows
end Go.Proofs.Ytlladicdmmdboaa
