-- Words for the machine side: those of the printed ones that are used here.
import Derived.Test.YtpplohjbifieiaaVInv
import Derived.Test.YtpplohjbifieiaaVFootNe
namespace Go.Proofs.YtpplohjbifieiaaW.PrintWords
open Go.RowKit
end Go.Proofs.YtpplohjbifieiaaW.PrintWords
namespace Go.Proofs.YtpplohjbifieiaaW.PrintLast
section
variable {ops : Array Oper} {a : Act} {o og : Oper} {g : Nat} {t : Tmp} {u : Bool}
end
end Go.Proofs.YtpplohjbifieiaaW.PrintLast
