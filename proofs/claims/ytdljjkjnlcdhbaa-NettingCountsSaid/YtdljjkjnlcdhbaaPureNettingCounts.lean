/- NettingCounts: Least returns the specified number. -/
import Derived.Test.YtdljjkjnlcdhbaaMx11
import Derived.Test.YtdljjkjnlcdhbaaGood
import Derived.Test.YtdljjkjnlcdhbaaNa
namespace Go.Proofs.Ytdljjkjnlcdhbaa.Pure
open Go.RowKit Go.Proofs.Ytdljjkjnlcdhbaa.M Go.Proofs.YtdljjkjnlcdhbaaW.PrintWords Go.Proofs.YtdljjkjnlcdhbaaW.PrintLast Go.Proofs.YtdljjkjnlcdhbaaW.PrintMore Go.Proofs.Ytdljjkjnlcdhbaa.Gd Go.Proofs.Ytdljjkjnlcdhbaa.Nt Go.Proofs.Ytdljjkjnlcdhbaa.Mk
set_option linter.unusedSimpArgs false
set_option linter.unusedVariables false
theorem NettingCounts : ∀ (l0 : List (S34)), l0.length * 16 ≤ 140737488351232 → (l0.length ≤ maxLen ∧ ∀ y ∈ l0, good34 y) → ∃ k, skiarealaw37_NettingCounts.f k l0 = some true := by
  intro l _ _
  refine Ev.rounds (g := fun k => skiarealaw37_NettingCounts.f k l) ?_
  unfold skiarealaw37_NettingCounts.f
  refine Ev.bind alive_ev ?_
  simp only [if_true]
  by_cases h : (l.length : Int) > 8
  · simp only [h, if_true]; exact Ev.const _
  simp only [h, if_false]
  refine Ev.bind (RRight_ev l) ?_
  by_cases hr : rightS l = 0
  · simp only [hr, if_true]
    obtain ⟨t, ht, he⟩ := Net_ev (rightS_zero hr)
    refine Ev.bind (Least_ev he) (Ev.bind (RLeast_ev (rightS_zero hr) ht) ?_)
    simp only [beq_self_eq_true]
    exact Ev.const _
  · simp only [hr, if_false]; exact Ev.const _
end Go.Proofs.Ytdljjkjnlcdhbaa.Pure
