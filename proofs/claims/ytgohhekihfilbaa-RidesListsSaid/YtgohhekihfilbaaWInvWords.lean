/- Of what print.sh printed for this seat's claims (the kit's words): what these claims come to; the rest is left out. -/
import Derived.Test.YtgohhekihfilbaaWInv
import Derived.Test.YtgohhekihfilbaaWFootNe
namespace Go.Proofs.YtgohhekihfilbaaW.PrintWords
open Go.RowKit
end Go.Proofs.YtgohhekihfilbaaW.PrintWords
namespace Go.Proofs.YtgohhekihfilbaaW.PrintLast
section
variable {ops : Array Oper} {a : Act} {o og : Oper} {g : Nat} {t : Tmp} {u : Bool}
end
end Go.Proofs.YtgohhekihfilbaaW.PrintLast
