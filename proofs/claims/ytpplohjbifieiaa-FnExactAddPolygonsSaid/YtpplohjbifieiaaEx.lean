-- Machine side,written by a program of this session.
-- narrowed
import Derived.Test.YtpplohjbifieiaaEx0
import Derived.Test.YtpplohjbifieiaaEx1
import Derived.Test.YtpplohjbifieiaaEx2
import Derived.Test.YtpplohjbifieiaaEx3
import Derived.Test.YtpplohjbifieiaaEx4
import Derived.Test.YtpplohjbifieiaaEx5
import Derived.Test.YtpplohjbifieiaaEx6
import Derived.Test.YtpplohjbifieiaaEx7
import Derived.Test.YtpplohjbifieiaaEx8
import Derived.Test.YtpplohjbifieiaaEx9
namespace Go.Proofs.Ytpplohjbifieiaa.PE
open Go.RowKit Go.Proofs.YtpplohjbifieiaaW.PrintWords Go.Proofs.YtpplohjbifieiaaW.PrintLast Go.Proofs.YtpplohjbifieiaaW.PrintMore
attribute [local go_sem] max2_int min2_int max_two min_two max_three min_three max_four min_four   -- for this text's walks alone
set_option linter.unusedVariables false
set_option linter.unusedSimpArgs false

end Go.Proofs.Ytpplohjbifieiaa.PE
