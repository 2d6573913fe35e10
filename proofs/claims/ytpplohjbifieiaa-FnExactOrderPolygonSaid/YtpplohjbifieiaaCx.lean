-- Machine side, written by a program of this session.
import Derived.Test.YtpplohjbifieiaaCx0
import Derived.Test.YtpplohjbifieiaaCx1
import Derived.Test.YtpplohjbifieiaaCx2
import Derived.Test.YtpplohjbifieiaaCx3
import Derived.Test.YtpplohjbifieiaaCx4
import Derived.Test.YtpplohjbifieiaaCx5
import Derived.Test.YtpplohjbifieiaaCx6
import Derived.Test.YtpplohjbifieiaaCx7
namespace Go.Proofs.Ytpplohjbifieiaa.PC
open Go.RowKit Go.Proofs.YtpplohjbifieiaaW.PrintWords Go.Proofs.YtpplohjbifieiaaW.PrintLast Go.Proofs.YtpplohjbifieiaaW.PrintMore
attribute [local go_sem] max2_int min2_int max_two min_two max_three min_three max_four min_four   -- for this text's walks alone
set_option linter.unusedVariables false
set_option linter.unusedSimpArgs false

end Go.Proofs.Ytpplohjbifieiaa.PC
