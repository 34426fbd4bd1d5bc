-- Written by a program of this session (wip/tools/myprint.py); Lean checks it.
import Derived.Test.YtlmiobfnkdkkjaaQFnQuotientsx0
import Derived.Test.YtlmiobfnkdkkjaaQFnQuotientsx1
import Derived.Test.YtlmiobfnkdkkjaaQFnQuotientsx2
import Derived.Test.YtlmiobfnkdkkjaaQFnQuotientsx3
import Derived.Test.YtlmiobfnkdkkjaaQFnQuotientsx4
import Derived.Test.YtlmiobfnkdkkjaaQFnQuotientsx5
namespace Go.Proofs.Ytlmiobfnkdkkjaa.QFnQuotients
open Go.RowKit Go.Proofs.YtlmiobfnkdkkjaaW.PrintWords Go.Proofs.YtlmiobfnkdkkjaaW.PrintLast Go.Proofs.YtlmiobfnkdkkjaaW.PrintMore
attribute [local go_sem] max2_int min2_int max_two min_two max_three min_three max_four min_four   -- for this text's walks alone
set_option linter.unusedVariables false
set_option linter.unusedSimpArgs false

end Go.Proofs.Ytlmiobfnkdkkjaa.QFnQuotients
