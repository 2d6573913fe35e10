-- Words for the machine side: those of the printed ones that are used here.
import Derived.Test.YtpplohjbifieiaaVWords
import Derived.Laws.StructEq
namespace Go.Proofs.YtpplohjbifieiaaW.PrintWords
open Go.RowKit
section
variable {P : Program} {d : Nat} {xs ys : Array Value} {f : Field} {fs : List Field} {a b : Value} {r s : Bool} {w : World}
end
end Go.Proofs.YtpplohjbifieiaaW.PrintWords
