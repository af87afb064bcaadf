-- by a program of this session (wip/pr)
import Derived.Test.YtjkbpcbnfkangaaProg
import Derived.Below
import Derived.Deep.Draws
import Derived.Deep.AppendLies
import Derived.Maps.AppendAt
import Derived.OwnWalk
import Derived.Laws.BytesArg
import Derived.Laws.MakeOwn
import Derived.Laws.OwnMore
import Derived.Deep.OwnRows
import Derived.Tactics
import Derived.Lib.ConvBytes
import Derived.Laws.Slices
import Derived.WalkKit
import Derived.KernelRfl
import Derived.RowKit3
import Derived.Deep.LoopGhost
import Derived.Deep.QuietTactic
import Derived.BigQuiet
import Derived.WideLaws
import Derived.Deep.DeepCutAuto
import Derived.Deep.CutBlock
import Derived.Deep.RegionHeld3
import Derived.Laws.Rows
import Derived.Lib.AppendStr
import Derived.ArgAppend
import Derived.Laws.IdiomCopy
import Derived.OrdersHeld
import Derived.Laws.BitsLemmas
import Derived.RowKit
import Derived.Test.YtjkbpcbnfkangaaWWords
import Derived.Test.YtjkbpcbnfkangaaWLast
import Derived.Test.YtjkbpcbnfkangaaWTab
import Derived.Test.YtjkbpcbnfkangaaWFour
import Derived.Test.YtjkbpcbnfkangaaWQPut
import Derived.Test.YtjkbpcbnfkangaaWApart
import Derived.Test.YtjkbpcbnfkangaaWArr
import Derived.Test.YtjkbpcbnfkangaaWZeros
import Derived.Test.YtjkbpcbnfkangaaWFoot
import Derived.Test.YtjkbpcbnfkangaaWKept
import Derived.Test.YtjkbpcbnfkangaaWShare
import Derived.Test.YtjkbpcbnfkangaaWN
import Derived.Test.YtjkbpcbnfkangaaWFootNe
import Derived.Test.YtjkbpcbnfkangaaWAt
import Derived.Test.YtjkbpcbnfkangaaWEqStruct
import Derived.Test.YtjkbpcbnfkangaaWRepsOne
import Derived.Test.YtjkbpcbnfkangaaWInv
import Derived.Test.YtjkbpcbnfkangaaWInvWords
import Derived.Test.YtjkbpcbnfkangaaWGuard
import Derived.Test.YtjkbpcbnfkangaaWNEv
import Derived.Test.YtjkbpcbnfkangaaWMore
namespace Go.Proofs.Ytjkbpcbnfkangaa.PFnExactCrc32
open Go.RowKit Go.Proofs.YtjkbpcbnfkangaaW.PrintWords Go.Proofs.YtjkbpcbnfkangaaW.PrintLast Go.Proofs.YtjkbpcbnfkangaaW.PrintMore
attribute [local go_sem] max2_int min2_int max_two min_two max_three min_three max_four min_four   -- for this text's walks alone
set_option linter.unusedVariables false
set_option linter.unusedSimpArgs false



def errW : Option Int → Value
  | none => .nilIface
  | some c => .iface 0 (.int .i64 c)
theorem errW_none : errW none = .nilIface := rfl
theorem errW_some (c : Int) : errW (some c) = .iface 0 (.int .i64 c) := rfl

theorem info5 : (Try.prog.info? 5).map (fun i => (i.zero, i.size, i.bytes)) = some (some (.int .u8 0), 1, 1) := by kernel_rfl
-- the values' own types

end Go.Proofs.Ytjkbpcbnfkangaa.PFnExactCrc32
