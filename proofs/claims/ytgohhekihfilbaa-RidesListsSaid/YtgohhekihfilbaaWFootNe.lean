/- Of what print.sh printed for this seat's claims (the kit's words): what these claims come to; the rest is left out. -/
import Derived.Test.YtgohhekihfilbaaWN
namespace Go.Proofs.YtgohhekihfilbaaW.PrintWords
open Go.RowKit
namespace Kd
section
variable {α : Type} {d : Kd α} {W : World} {g n : Nat} {S ok : Nat → Prop} {A : Option Addr} {ad : Addr} {xs : List α}
end
end Kd
end Go.Proofs.YtgohhekihfilbaaW.PrintWords
