-- Words for the machine side: those of the printed ones that are used here.
import Derived.Test.YtpplohjbifieiaaVTab
namespace Go.Proofs.YtpplohjbifieiaaW.PrintLast
section
variable {P : Program} {ops : Array Oper} {Q : Exit → Act → World → Prop} {md : Region.Mode} {S : World → Prop} {ds : List Nat} {T : Bool × List (List Nat × List Nat)}
end
end Go.Proofs.YtpplohjbifieiaaW.PrintLast
