-- written by xprint.py (a program of this session's, over the kit's print.py). Lean checks it.
import Derived.Test.YtojbkakdhfmjmaaX0
import Derived.Test.YtojbkakdhfmjmaaX1
import Derived.Test.YtojbkakdhfmjmaaX2
import Derived.Test.YtojbkakdhfmjmaaX3
import Derived.Test.YtojbkakdhfmjmaaX4
import Derived.Test.YtojbkakdhfmjmaaX5
namespace Go.Proofs.Ytojbkakdhfmjmaa.X
open Go.RowKit Go.Proofs.YtojbkakdhfmjmaaW.PrintWords Go.Proofs.YtojbkakdhfmjmaaW.PrintLast Go.Proofs.YtojbkakdhfmjmaaW.PrintMore
attribute [local go_sem] max2_int min2_int max_two min_two max_three min_three max_four min_four   -- for this text's walks alone
set_option linter.unusedVariables false
set_option linter.unusedSimpArgs false

end Go.Proofs.Ytojbkakdhfmjmaa.X
