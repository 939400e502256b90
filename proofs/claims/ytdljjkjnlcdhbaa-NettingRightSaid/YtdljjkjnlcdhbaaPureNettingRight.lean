/- NettingRight: Right returns the first error of any positions. -/
import Derived.Test.YtdljjkjnlcdhbaaMx8
import Derived.Test.YtdljjkjnlcdhbaaGood
import Derived.Test.YtdljjkjnlcdhbaaNa
namespace Go.Proofs.Ytdljjkjnlcdhbaa.Pure
open Go.RowKit Go.Proofs.Ytdljjkjnlcdhbaa.M Go.Proofs.YtdljjkjnlcdhbaaW.PrintWords Go.Proofs.YtdljjkjnlcdhbaaW.PrintLast Go.Proofs.YtdljjkjnlcdhbaaW.PrintMore Go.Proofs.Ytdljjkjnlcdhbaa.Gd Go.Proofs.Ytdljjkjnlcdhbaa.Nt Go.Proofs.Ytdljjkjnlcdhbaa.Mk
set_option linter.unusedSimpArgs false
set_option linter.unusedVariables false
theorem NettingRight : ∀ (l0 : List (S34)), l0.length * 16 ≤ 140737488351232 → (l0.length ≤ maxLen ∧ ∀ y ∈ l0, good34 y) → ∃ k, skiarealaw37_NettingRight.f k l0 = some true := by
  intro l _ _
  refine Ev.rounds (g := fun k => skiarealaw37_NettingRight.f k l) ?_
  unfold skiarealaw37_NettingRight.f
  refine Ev.bind alive_ev ?_
  simp only [if_true]
  by_cases h : (l.length : Int) > 100
  · simp only [h, if_true]; exact Ev.const _
  · simp only [h, if_false]
    refine Ev.bind (Right_ev l) (Ev.bind (RRight_ev l) ?_)
    simp only [beq_self_eq_true]
    exact Ev.const _
end Go.Proofs.Ytdljjkjnlcdhbaa.Pure
