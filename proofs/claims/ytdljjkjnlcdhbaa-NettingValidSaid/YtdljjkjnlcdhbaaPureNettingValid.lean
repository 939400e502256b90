/- NettingValid: Valid reports whether transfers settle positions. -/
import Derived.Test.YtdljjkjnlcdhbaaMx10
import Derived.Test.YtdljjkjnlcdhbaaGood
import Derived.Test.YtdljjkjnlcdhbaaNa
namespace Go.Proofs.Ytdljjkjnlcdhbaa.Pure
open Go.RowKit Go.Proofs.Ytdljjkjnlcdhbaa.M Go.Proofs.YtdljjkjnlcdhbaaW.PrintWords Go.Proofs.YtdljjkjnlcdhbaaW.PrintLast Go.Proofs.YtdljjkjnlcdhbaaW.PrintMore Go.Proofs.Ytdljjkjnlcdhbaa.Gd Go.Proofs.Ytdljjkjnlcdhbaa.Nt Go.Proofs.Ytdljjkjnlcdhbaa.Mk
set_option linter.unusedSimpArgs false
set_option linter.unusedVariables false
theorem NettingValid : ∀ (l0 : List (S34)) (l1 : List (S32)), l0.length * 16 ≤ 140737488351232 → (l0.length ≤ maxLen ∧ ∀ y ∈ l0, good34 y) → l1.length * 24 ≤ 140737488351232 → (l1.length ≤ maxLen ∧ ∀ y ∈ l1, good32 y) → ∃ k, skiarealaw37_NettingValid.f k l0 l1 = some true := by
  intro l t _ _ _ _
  refine Ev.rounds (g := fun k => skiarealaw37_NettingValid.f k l t) ?_
  unfold skiarealaw37_NettingValid.f
  refine Ev.bind alive_ev ?_
  simp only [if_true]
  by_cases h : (l.length : Int) > 8
  · simp only [h, if_true]; exact Ev.const _
  simp only [h, if_false]
  refine Ev.bind (RRight_ev l) ?_
  by_cases hr : rightS l = 0
  · simp only [hr, if_true]
    by_cases ht : (t.length : Int) > 1000
    · simp only [ht, if_true]; exact Ev.const _
    · simp only [ht, if_false]
      refine Ev.bind (Valid_ev (rightS_zero hr) (by omega)) (Ev.bind (RValid_ev (rightS_zero hr) (by omega)) ?_)
      simp only [beq_self_eq_true]
      exact Ev.const _
  · simp only [hr, if_false]; exact Ev.const _
end Go.Proofs.Ytdljjkjnlcdhbaa.Pure
