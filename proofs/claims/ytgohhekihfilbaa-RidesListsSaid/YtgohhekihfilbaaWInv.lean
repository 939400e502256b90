/- Of what print.sh printed for this seat's claims (the kit's words): what these claims come to; the rest is left out. -/
import Derived.Test.YtgohhekihfilbaaWTab
namespace Go.Proofs.YtgohhekihfilbaaW.PrintLast
section
variable {P : Program} {ops : Array Oper} {Q : Exit → Act → World → Prop} {md : Region.Mode} {T : Bool × List (List Nat × List Nat)} {B : List Nat} {O : List Nat} {b : Nat → Bool} {i j n : Nat}
end
end Go.Proofs.YtgohhekihfilbaaW.PrintLast
