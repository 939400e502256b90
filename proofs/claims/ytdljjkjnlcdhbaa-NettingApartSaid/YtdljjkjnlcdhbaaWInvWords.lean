/- Of what print.sh printed for this seat's claims (the kit's words): what these claims come to; the rest is left out. -/
import Derived.Test.YtdljjkjnlcdhbaaWInv
import Derived.Test.YtdljjkjnlcdhbaaWFootNe
namespace Go.Proofs.YtdljjkjnlcdhbaaW.PrintWords
open Go.RowKit
end Go.Proofs.YtdljjkjnlcdhbaaW.PrintWords
namespace Go.Proofs.YtdljjkjnlcdhbaaW.PrintLast
section
variable {ops : Array Oper} {a : Act} {o og : Oper} {g : Nat} {t : Tmp} {u : Bool}
end
end Go.Proofs.YtdljjkjnlcdhbaaW.PrintLast
