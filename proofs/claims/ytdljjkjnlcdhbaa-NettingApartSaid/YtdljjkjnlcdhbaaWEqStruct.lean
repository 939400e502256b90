/- Of what print.sh printed for this seat's claims (the kit's words): what these claims come to; the rest is left out. -/
import Derived.Test.YtdljjkjnlcdhbaaWWords
import Derived.Laws.StructEq
namespace Go.Proofs.YtdljjkjnlcdhbaaW.PrintWords
open Go.RowKit
section
variable {P : Program} {d : Nat} {xs ys : Array Value} {f : Field} {fs : List Field} {a b : Value} {r s : Bool} {w : World}
end
end Go.Proofs.YtdljjkjnlcdhbaaW.PrintWords
