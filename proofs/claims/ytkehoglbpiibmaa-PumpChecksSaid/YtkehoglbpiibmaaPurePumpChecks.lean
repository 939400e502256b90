/- PumpChecks: Right returns the first error of any pumps. -/
import Derived.Test.YtkehoglbpiibmaaMx4
import Derived.Test.YtkehoglbpiibmaaGood
import Derived.Test.YtkehoglbpiibmaaPb
namespace Go.Proofs.Ytkehoglbpiibmaa.Pure
open Go.RowKit Go.Proofs.Ytkehoglbpiibmaa.M Go.Proofs.YtkehoglbpiibmaaW.PrintWords Go.Proofs.YtkehoglbpiibmaaW.PrintLast Go.Proofs.YtkehoglbpiibmaaW.PrintMore Go.Proofs.Ytkehoglbpiibmaa.Gd Go.Proofs.Ytkehoglbpiibmaa.Pl
theorem PumpChecks : ∀ (l0 : List (S37)), l0.length * 24 ≤ 140737488351232 → (l0.length ≤ maxLen ∧ ∀ y ∈ l0, good37 y) → ∃ k, skiarealaw41_PumpChecks.f k l0 = some true := by
  intro l _ _
  refine Ev.rounds (g := fun k => skiarealaw41_PumpChecks.f k l) ?_
  unfold skiarealaw41_PumpChecks.f
  refine Ev.bind alive_ev ?_
  simp only [if_true]
  by_cases h : (l.length : Int) > 30
  · simp only [if_pos h]
    exact Ev.const _
  · simp only [if_neg h]
    refine Ev.bind (Right_ev l) ?_
    refine Ev.bind (rRight_ev l) ?_
    simp only [beq_self_eq_true]
    exact Ev.const _
end Go.Proofs.Ytkehoglbpiibmaa.Pure
