-- Written by a program of this session (wip/tools/myprint.py); Lean checks it.
import Derived.Test.YtlmiobfnkdkkjaaQFnRootsx0
import Derived.Test.YtlmiobfnkdkkjaaQFnRootsx1
import Derived.Test.YtlmiobfnkdkkjaaQFnRootsx2
import Derived.Test.YtlmiobfnkdkkjaaQFnRootsx3
import Derived.Test.YtlmiobfnkdkkjaaQFnRootsx4
import Derived.Test.YtlmiobfnkdkkjaaQFnRootsx5
import Derived.Test.YtlmiobfnkdkkjaaQFnRootsx6
import Derived.Test.YtlmiobfnkdkkjaaQFnRootsx7
namespace Go.Proofs.Ytlmiobfnkdkkjaa.QFnRoots
open Go.RowKit Go.Proofs.YtlmiobfnkdkkjaaW.PrintWords Go.Proofs.YtlmiobfnkdkkjaaW.PrintLast Go.Proofs.YtlmiobfnkdkkjaaW.PrintMore
attribute [local go_sem] max2_int min2_int max_two min_two max_three min_three max_four min_four   -- for this text's walks alone
set_option linter.unusedVariables false
set_option linter.unusedSimpArgs false

end Go.Proofs.Ytlmiobfnkdkkjaa.QFnRoots
