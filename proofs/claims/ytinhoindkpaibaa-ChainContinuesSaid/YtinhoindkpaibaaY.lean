-- written by xprint.py (a program of this session's, over the kit's print.py). Lean checks it.
import Derived.Test.YtinhoindkpaibaaY0
import Derived.Test.YtinhoindkpaibaaY1
import Derived.Test.YtinhoindkpaibaaY2
import Derived.Test.YtinhoindkpaibaaY3
import Derived.Test.YtinhoindkpaibaaY4
namespace Go.Proofs.Ytinhoindkpaibaa.Y
open Go.RowKit Go.Proofs.YtinhoindkpaibaaW.PrintWords Go.Proofs.YtinhoindkpaibaaW.PrintLast Go.Proofs.YtinhoindkpaibaaW.PrintMore
attribute [local go_sem] max2_int min2_int max_two min_two max_three min_three max_four min_four   -- for this text's walks alone
set_option linter.unusedVariables false
set_option linter.unusedSimpArgs false

end Go.Proofs.Ytinhoindkpaibaa.Y
