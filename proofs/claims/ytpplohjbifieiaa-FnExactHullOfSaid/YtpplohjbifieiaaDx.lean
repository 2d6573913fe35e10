-- Machine side, written by a program of this session.
-- narrowed
import Derived.Test.YtpplohjbifieiaaDx0
import Derived.Test.YtpplohjbifieiaaDx1
import Derived.Test.YtpplohjbifieiaaDx2
import Derived.Test.YtpplohjbifieiaaDx3
import Derived.Test.YtpplohjbifieiaaDx4
import Derived.Test.YtpplohjbifieiaaDx5
import Derived.Test.YtpplohjbifieiaaDx6
import Derived.Test.YtpplohjbifieiaaDx7
import Derived.Test.YtpplohjbifieiaaDx8
import Derived.Test.YtpplohjbifieiaaDx9
namespace Go.Proofs.Ytpplohjbifieiaa.PD
open Go.RowKit Go.Proofs.YtpplohjbifieiaaW.PrintWords Go.Proofs.YtpplohjbifieiaaW.PrintLast Go.Proofs.YtpplohjbifieiaaW.PrintMore
attribute [local go_sem] max2_int min2_int max_two min_two max_three min_three max_four min_four   -- for this text's walks alone
set_option linter.unusedVariables false
set_option linter.unusedSimpArgs false

end Go.Proofs.Ytpplohjbifieiaa.PD
