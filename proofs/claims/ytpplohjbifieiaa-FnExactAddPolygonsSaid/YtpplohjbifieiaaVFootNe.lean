-- Words for the machine side: those of the printed ones that are used here.
import Derived.Test.YtpplohjbifieiaaVN
namespace Go.Proofs.YtpplohjbifieiaaW.PrintWords
open Go.RowKit
namespace Kd
section
variable {α : Type} {d : Kd α} {W : World} {g n : Nat} {S ok : Nat → Prop} {A : Option Addr} {ad : Addr} {xs : List α}
end
end Kd
end Go.Proofs.YtpplohjbifieiaaW.PrintWords
