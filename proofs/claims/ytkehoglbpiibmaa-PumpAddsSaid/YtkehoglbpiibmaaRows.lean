/-
  No cell of these rows narrows 'for every input' (looked for: loops, veiled, ifaces, maps, wideKeys, modest, calm, conditions, laid).
  DERIVED. THE GIVEN ROWS OF THIS SEAT. 7 by the template 'for every input the law returns true; each argument reads behind the call as it read before'; 0 by the template 'total and deterministic' (their statements: YtkehoglbpiibmaaTotals.lean).
  GIVEN WITH THE SEED: the statements are not yours to turn. If you find one false, say at which input.
  Laid BY PROGRAM, IN A SANDBOX (cutbox-rows.mjs): the forced cells as the released guide's own fill.sh prints them over the translation 5b54ee1ba8a1498f… (all of the seat's roots in one cut). By AI agents, Wed Nov 11 2026. No macro, syntax, notation, axiom, sorry.
-/
import Derived.Test.YtkehoglbpiibmaaChecked
import GoSem.Claim
import GoSem.ClaimJoined
import GoSem.ClaimMapViews
import Derived.JoinedTies
import Derived.KernelRfl
namespace Go.Proofs.Ytkehoglbpiibmaa
/- THE CELL 'sum', in the pinned program and in every row, IS THE sha256 OF THE DUMP (.gsa) THAT YtkehoglbpiibmaaProg.lean LOADS. Nothing in Lean hashes anything: it is a label: what it is worth is what the hold of that sum in a sandbox is worth. -/
noncomputable def Try.pinned : Pinned := { name := "ytkehoglbpiibmaa", sum := "5b54ee1ba8a1498f77055485a50440ea7ae3713051ebdd8a18c425dba9661e55", checked := Try.checked }
namespace Rows
def none {H : Type} : Left H := { results := [], args := [] }

/-- 'skiarealaw41.PumpChecks': WHATEVER THE INPUT: true; the input reads as it did. -/
def pumpChecksSpec : ChangeSpec := { name := "pumpChecks", fn := fun _ => fun
  | [d] => { results := [.lit (.bool true)], args := [d] }
  | _ => none }
def pumpChecksRow : OpenClaim := { program := "ytkehoglbpiibmaa", sum := "5b54ee1ba8a1498f77055485a50440ea7ae3713051ebdd8a18c425dba9661e55", func := "skiarea/skiarealaw41.PumpChecks", spec := "pumpChecks", unfollowed := true, recurses := true, apart := false }
def PumpChecksSaid : Prop := pumpChecksRow.holds Try.pinned (OpenSpec.ofChange pumpChecksSpec)

/-- ITS FALSE NEIGHBOUR: 'it returns false'. Refute it at one input. -/
def pumpChecksWrong : ChangeSpec := { name := "pumpChecks", fn := fun _ => fun
  | [d] => { results := [.lit (.bool false)], args := [d] }
  | _ => none }
def PumpChecksWrongFalsely : Prop := pumpChecksRow.holds Try.pinned (OpenSpec.ofChange pumpChecksWrong)

/-- 'skiarealaw41.PumpBests': WHATEVER THE INPUT: true; the input reads as it did. -/
def pumpBestsSpec : ChangeSpec := { name := "pumpBests", fn := fun _ => fun
  | [d1, d2] => { results := [.lit (.bool true)], args := [d1, d2] }
  | _ => none }
def pumpBestsRow : OpenClaim := { program := "ytkehoglbpiibmaa", sum := "5b54ee1ba8a1498f77055485a50440ea7ae3713051ebdd8a18c425dba9661e55", func := "skiarea/skiarealaw41.PumpBests", spec := "pumpBests", unfollowed := true, recurses := true, apart := false }
def PumpBestsSaid : Prop := pumpBestsRow.holds Try.pinned (OpenSpec.ofChange pumpBestsSpec)

/-- ITS FALSE NEIGHBOUR: 'it returns false'. Refute it at one input. -/
def pumpBestsWrong : ChangeSpec := { name := "pumpBests", fn := fun _ => fun
  | [d1, d2] => { results := [.lit (.bool false)], args := [d1, d2] }
  | _ => none }
def PumpBestsWrongFalsely : Prop := pumpBestsRow.holds Try.pinned (OpenSpec.ofChange pumpBestsWrong)

/-- 'skiarealaw41.PumpSums': WHATEVER THE INPUT: true; the input reads as it did. -/
def pumpSumsSpec : ChangeSpec := { name := "pumpSums", fn := fun _ => fun
  | [d1, d2] => { results := [.lit (.bool true)], args := [d1, d2] }
  | _ => none }
def pumpSumsRow : OpenClaim := { program := "ytkehoglbpiibmaa", sum := "5b54ee1ba8a1498f77055485a50440ea7ae3713051ebdd8a18c425dba9661e55", func := "skiarea/skiarealaw41.PumpSums", spec := "pumpSums", unfollowed := true, recurses := true, apart := false }
def PumpSumsSaid : Prop := pumpSumsRow.holds Try.pinned (OpenSpec.ofChange pumpSumsSpec)

/-- ITS FALSE NEIGHBOUR: 'it returns false'. Refute it at one input. -/
def pumpSumsWrong : ChangeSpec := { name := "pumpSums", fn := fun _ => fun
  | [d1, d2] => { results := [.lit (.bool false)], args := [d1, d2] }
  | _ => none }
def PumpSumsWrongFalsely : Prop := pumpSumsRow.holds Try.pinned (OpenSpec.ofChange pumpSumsWrong)

/-- 'skiarealaw41.PumpLeast': WHATEVER THE INPUT: true; the input reads as it did. -/
def pumpLeastSpec : ChangeSpec := { name := "pumpLeast", fn := fun _ => fun
  | [d1, d2, d3] => { results := [.lit (.bool true)], args := [d1, d2, d3] }
  | _ => none }
def pumpLeastRow : OpenClaim := { program := "ytkehoglbpiibmaa", sum := "5b54ee1ba8a1498f77055485a50440ea7ae3713051ebdd8a18c425dba9661e55", func := "skiarea/skiarealaw41.PumpLeast", spec := "pumpLeast", unfollowed := true, recurses := true, apart := false }
def PumpLeastSaid : Prop := pumpLeastRow.holds Try.pinned (OpenSpec.ofChange pumpLeastSpec)

/-- ITS FALSE NEIGHBOUR: 'it returns false'. Refute it at one input. -/
def pumpLeastWrong : ChangeSpec := { name := "pumpLeast", fn := fun _ => fun
  | [d1, d2, d3] => { results := [.lit (.bool false)], args := [d1, d2, d3] }
  | _ => none }
def PumpLeastWrongFalsely : Prop := pumpLeastRow.holds Try.pinned (OpenSpec.ofChange pumpLeastWrong)

/-- 'skiarealaw41.PumpNeeded': WHATEVER THE INPUT: true; the input reads as it did. -/
def pumpNeededSpec : ChangeSpec := { name := "pumpNeeded", fn := fun _ => fun
  | [d1, d2] => { results := [.lit (.bool true)], args := [d1, d2] }
  | _ => none }
def pumpNeededRow : OpenClaim := { program := "ytkehoglbpiibmaa", sum := "5b54ee1ba8a1498f77055485a50440ea7ae3713051ebdd8a18c425dba9661e55", func := "skiarea/skiarealaw41.PumpNeeded", spec := "pumpNeeded", unfollowed := true, recurses := true, apart := false }
def PumpNeededSaid : Prop := pumpNeededRow.holds Try.pinned (OpenSpec.ofChange pumpNeededSpec)

/-- ITS FALSE NEIGHBOUR: 'it returns false'. Refute it at one input. -/
def pumpNeededWrong : ChangeSpec := { name := "pumpNeeded", fn := fun _ => fun
  | [d1, d2] => { results := [.lit (.bool false)], args := [d1, d2] }
  | _ => none }
def PumpNeededWrongFalsely : Prop := pumpNeededRow.holds Try.pinned (OpenSpec.ofChange pumpNeededWrong)

/-- 'skiarealaw41.PumpMore': WHATEVER THE INPUT: true; the input reads as it did. -/
def pumpMoreSpec : ChangeSpec := { name := "pumpMore", fn := fun _ => fun
  | [d1, d2, d3] => { results := [.lit (.bool true)], args := [d1, d2, d3] }
  | _ => none }
def pumpMoreRow : OpenClaim := { program := "ytkehoglbpiibmaa", sum := "5b54ee1ba8a1498f77055485a50440ea7ae3713051ebdd8a18c425dba9661e55", func := "skiarea/skiarealaw41.PumpMore", spec := "pumpMore", unfollowed := true, recurses := true, apart := false }
def PumpMoreSaid : Prop := pumpMoreRow.holds Try.pinned (OpenSpec.ofChange pumpMoreSpec)

/-- ITS FALSE NEIGHBOUR: 'it returns false'. Refute it at one input. -/
def pumpMoreWrong : ChangeSpec := { name := "pumpMore", fn := fun _ => fun
  | [d1, d2, d3] => { results := [.lit (.bool false)], args := [d1, d2, d3] }
  | _ => none }
def PumpMoreWrongFalsely : Prop := pumpMoreRow.holds Try.pinned (OpenSpec.ofChange pumpMoreWrong)

/-- 'skiarealaw41.PumpAdds': WHATEVER THE INPUT: true; the input reads as it did. -/
def pumpAddsSpec : ChangeSpec := { name := "pumpAdds", fn := fun _ => fun
  | [d1, d2, d3] => { results := [.lit (.bool true)], args := [d1, d2, d3] }
  | _ => none }
def pumpAddsRow : OpenClaim := { program := "ytkehoglbpiibmaa", sum := "5b54ee1ba8a1498f77055485a50440ea7ae3713051ebdd8a18c425dba9661e55", func := "skiarea/skiarealaw41.PumpAdds", spec := "pumpAdds", unfollowed := true, recurses := true, apart := false }
def PumpAddsSaid : Prop := pumpAddsRow.holds Try.pinned (OpenSpec.ofChange pumpAddsSpec)

/-- ITS FALSE NEIGHBOUR: 'it returns false'. Refute it at one input. -/
def pumpAddsWrong : ChangeSpec := { name := "pumpAdds", fn := fun _ => fun
  | [d1, d2, d3] => { results := [.lit (.bool false)], args := [d1, d2, d3] }
  | _ => none }
def PumpAddsWrongFalsely : Prop := pumpAddsRow.holds Try.pinned (OpenSpec.ofChange pumpAddsWrong)

/- THE SECOND FORM. 'bulk': how many values and letters a reading holds, each counted each time it is reached (what is shared counts as often as it is met; a slice's spare places count too). A statement '..UptoSaid' is the law's where the arguments, and the package variables that the reading takes, are together of bulk at most 1048576: NARROWER than '..Said'. Prove '..Said' where nothing that the law and all that it calls make is longer than what came in: it says more and counts as full. Else prove '..UptoSaid'. A law counts once. -/
mutual
def uptoBulk {H : Type} : DataW H → Nat
  | .lit (.string bytes) => bytes.length + 1
  | .lit _ => 1
  | .nil => 1
  | .ptr d => uptoBulk d + 1
  | .slice elems spare => uptoBulkAll elems + uptoBulkAll spare + 1
  | .agg parts => uptoBulkAll parts + 1
  | .iface _ d => uptoBulk d + 1
  | .map entries => uptoBulkEntries entries + 1
  | .held _ => 1
def uptoBulkAll {H : Type} : List (DataW H) → Nat
  | [] => 0
  | d :: r => uptoBulk d + uptoBulkAll r
def uptoBulkEntries {H : Type} : List (Lit × DataW H) → Nat
  | [] => 0
  | x :: r => uptoBulkEntry x + uptoBulkEntries r
def uptoBulkEntry {H : Type} : Lit × DataW H → Nat
  | (.string bytes, d) => bytes.length + uptoBulk d + 1
  | (_, d) => uptoBulk d + 1
 end
def uptoSmall : (H : Type) → List (DataW H) → Bool := fun _ ds => decide (uptoBulkAll ds ≤ 1048576)
def OpenSpec.upto (s : _root_.Go.ChangeSpec) : _root_.Go.OpenSpec := { _root_.Go.OpenSpec.ofChange s with cond := some uptoSmall }

/-- 'skiarealaw41.PumpChecks', WHERE WHAT IT READS IS OF BULK AT MOST 1048576: true; the input reads as it did. -/
def pumpChecksUptoRow : OpenClaim := { program := "ytkehoglbpiibmaa", sum := "5b54ee1ba8a1498f77055485a50440ea7ae3713051ebdd8a18c425dba9661e55", func := "skiarea/skiarealaw41.PumpChecks", spec := "pumpChecks", unfollowed := true, recurses := true, apart := false, narrowed := true }
def PumpChecksUptoSaid : Prop := pumpChecksUptoRow.holds Try.pinned (OpenSpec.upto pumpChecksSpec)

/-- 'skiarealaw41.PumpBests', WHERE WHAT IT READS IS OF BULK AT MOST 1048576: true; the input reads as it did. -/
def pumpBestsUptoRow : OpenClaim := { program := "ytkehoglbpiibmaa", sum := "5b54ee1ba8a1498f77055485a50440ea7ae3713051ebdd8a18c425dba9661e55", func := "skiarea/skiarealaw41.PumpBests", spec := "pumpBests", unfollowed := true, recurses := true, apart := false, narrowed := true }
def PumpBestsUptoSaid : Prop := pumpBestsUptoRow.holds Try.pinned (OpenSpec.upto pumpBestsSpec)

/-- 'skiarealaw41.PumpSums', WHERE WHAT IT READS IS OF BULK AT MOST 1048576: true; the input reads as it did. -/
def pumpSumsUptoRow : OpenClaim := { program := "ytkehoglbpiibmaa", sum := "5b54ee1ba8a1498f77055485a50440ea7ae3713051ebdd8a18c425dba9661e55", func := "skiarea/skiarealaw41.PumpSums", spec := "pumpSums", unfollowed := true, recurses := true, apart := false, narrowed := true }
def PumpSumsUptoSaid : Prop := pumpSumsUptoRow.holds Try.pinned (OpenSpec.upto pumpSumsSpec)

/-- 'skiarealaw41.PumpLeast', WHERE WHAT IT READS IS OF BULK AT MOST 1048576: true; the input reads as it did. -/
def pumpLeastUptoRow : OpenClaim := { program := "ytkehoglbpiibmaa", sum := "5b54ee1ba8a1498f77055485a50440ea7ae3713051ebdd8a18c425dba9661e55", func := "skiarea/skiarealaw41.PumpLeast", spec := "pumpLeast", unfollowed := true, recurses := true, apart := false, narrowed := true }
def PumpLeastUptoSaid : Prop := pumpLeastUptoRow.holds Try.pinned (OpenSpec.upto pumpLeastSpec)

/-- 'skiarealaw41.PumpNeeded', WHERE WHAT IT READS IS OF BULK AT MOST 1048576: true; the input reads as it did. -/
def pumpNeededUptoRow : OpenClaim := { program := "ytkehoglbpiibmaa", sum := "5b54ee1ba8a1498f77055485a50440ea7ae3713051ebdd8a18c425dba9661e55", func := "skiarea/skiarealaw41.PumpNeeded", spec := "pumpNeeded", unfollowed := true, recurses := true, apart := false, narrowed := true }
def PumpNeededUptoSaid : Prop := pumpNeededUptoRow.holds Try.pinned (OpenSpec.upto pumpNeededSpec)

/-- 'skiarealaw41.PumpMore', WHERE WHAT IT READS IS OF BULK AT MOST 1048576: true; the input reads as it did. -/
def pumpMoreUptoRow : OpenClaim := { program := "ytkehoglbpiibmaa", sum := "5b54ee1ba8a1498f77055485a50440ea7ae3713051ebdd8a18c425dba9661e55", func := "skiarea/skiarealaw41.PumpMore", spec := "pumpMore", unfollowed := true, recurses := true, apart := false, narrowed := true }
def PumpMoreUptoSaid : Prop := pumpMoreUptoRow.holds Try.pinned (OpenSpec.upto pumpMoreSpec)

/-- 'skiarealaw41.PumpAdds', WHERE WHAT IT READS IS OF BULK AT MOST 1048576: true; the input reads as it did. -/
def pumpAddsUptoRow : OpenClaim := { program := "ytkehoglbpiibmaa", sum := "5b54ee1ba8a1498f77055485a50440ea7ae3713051ebdd8a18c425dba9661e55", func := "skiarea/skiarealaw41.PumpAdds", spec := "pumpAdds", unfollowed := true, recurses := true, apart := false, narrowed := true }
def PumpAddsUptoSaid : Prop := pumpAddsUptoRow.holds Try.pinned (OpenSpec.upto pumpAddsSpec)

end Rows
end Go.Proofs.Ytkehoglbpiibmaa
