-- Written by a program of this session (wip/tools/myprint.py); Lean checks it.
import Derived.Test.YtlmiobfnkdkkjaaProg
import Derived.Below
import Derived.Deep.Draws
import Derived.Deep.AppendLies
import Derived.Maps.AppendAt
import Derived.OwnWalk
import Derived.Laws.BytesArg
import Derived.Laws.MakeOwn
import Derived.Laws.OwnMore
import Derived.Deep.OwnRows
import Derived.Tactics
import Derived.Lib.ConvBytes
import Derived.Laws.Slices
import Derived.WalkKit
import Derived.KernelRfl
import Derived.RowKit3
import Derived.Deep.LoopGhost
import Derived.Deep.QuietTactic
import Derived.BigQuiet
import Derived.WideLaws
import Derived.Deep.DeepCutAuto
import Derived.Deep.CutBlock
import Derived.Deep.RegionHeld3
import Derived.Laws.Rows
import Derived.Lib.AppendStr
import Derived.ArgAppend
import Derived.Laws.IdiomCopy
import Derived.OrdersHeld
import Derived.Laws.BitsLemmas
import Derived.RowKit
import Derived.WalkLawsBesides
import Derived.Laws.FloatArith
import Derived.Laws.Cover2
import Derived.Laws.Externs
import Derived.Test.YtlmiobfnkdkkjaaWWords
import Derived.Test.YtlmiobfnkdkkjaaWLast
import Derived.Test.YtlmiobfnkdkkjaaWTab
import Derived.Test.YtlmiobfnkdkkjaaWFour
import Derived.Test.YtlmiobfnkdkkjaaWQPut
import Derived.Test.YtlmiobfnkdkkjaaWApart
import Derived.Test.YtlmiobfnkdkkjaaWArr
import Derived.Test.YtlmiobfnkdkkjaaWZeros
import Derived.Test.YtlmiobfnkdkkjaaWFoot
import Derived.Test.YtlmiobfnkdkkjaaWKept
import Derived.Test.YtlmiobfnkdkkjaaWShare
import Derived.Test.YtlmiobfnkdkkjaaWN
import Derived.Test.YtlmiobfnkdkkjaaWFootNe
import Derived.Test.YtlmiobfnkdkkjaaWAt
import Derived.Test.YtlmiobfnkdkkjaaWEqStruct
import Derived.Test.YtlmiobfnkdkkjaaWRepsOne
import Derived.Test.YtlmiobfnkdkkjaaWInv
import Derived.Test.YtlmiobfnkdkkjaaWInvWords
import Derived.Test.YtlmiobfnkdkkjaaWGuard
import Derived.Test.YtlmiobfnkdkkjaaWNEv
import Derived.Test.YtlmiobfnkdkkjaaWMore
namespace Go.Proofs.Ytlmiobfnkdkkjaa.QFnQuotients
open Go.RowKit Go.Proofs.YtlmiobfnkdkkjaaW.PrintWords Go.Proofs.YtlmiobfnkdkkjaaW.PrintLast Go.Proofs.YtlmiobfnkdkkjaaW.PrintMore
attribute [local go_sem] max2_int min2_int max_two min_two max_three min_three max_four min_four   -- for this text's walks alone
set_option linter.unusedVariables false
set_option linter.unusedSimpArgs false



def errW : Option Int → Value
  | none => .nilIface
  | some c => .iface 0 (.int .i64 c)
theorem errW_none : errW none = .nilIface := rfl
theorem errW_some (c : Int) : errW (some c) = .iface 0 (.int .i64 c) := rfl

theorem info3 : (Try.prog.info? 3).map (fun i => (i.zero, i.size, i.bytes)) = some (some (.int .i64 0), 1, 8) := by kernel_rfl
-- the values' own types

end Go.Proofs.Ytlmiobfnkdkkjaa.QFnQuotients
