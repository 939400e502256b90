/- RidesRight: Right returns the first error of any list. -/
import Derived.Test.YtgohhekihfilbaaMx7
import Derived.Test.YtgohhekihfilbaaGood
import Derived.Test.YtgohhekihfilbaaRb
namespace Go.Proofs.Ytgohhekihfilbaa.Pure
open Go.RowKit Go.Proofs.Ytgohhekihfilbaa.M Go.Proofs.YtgohhekihfilbaaW.PrintWords Go.Proofs.YtgohhekihfilbaaW.PrintLast Go.Proofs.YtgohhekihfilbaaW.PrintMore Go.Proofs.Ytgohhekihfilbaa.Gd Go.Proofs.Ytgohhekihfilbaa.Rl
theorem RidesRight : ∀ (l0 : List (S28)), l0.length * 56 ≤ 140737488351232 → (l0.length ≤ maxLen ∧ ∀ y ∈ l0, good28 y) → ∃ k, skiarealaw31_RidesRight.f k l0 = some true := by
  intro l _ _
  have hj : ∀ b, Ev (fun k => skiarealaw31_RidesRight.j0 k l b) true := by
    intro b
    refine Ev.at1 ?_
    cases b with
    | true => simp only [skiarealaw31_RidesRight.j0, if_true]; exact Ev.const _
    | false =>
      simp only [skiarealaw31_RidesRight.j0, Bool.false_eq_true, if_false]
      refine Ev.bind (Right_ev l) ?_
      refine Ev.bind (rRight_ev l) ?_
      simp only [beq_self_eq_true]
      exact Ev.const _
  refine Ev.rounds (g := fun k => skiarealaw31_RidesRight.f k l) ?_
  unfold skiarealaw31_RidesRight.f
  refine Ev.bind alive_ev ?_
  simp only [if_true]
  by_cases h : (l.length : Int) > 300
  · simp only [if_pos h]
    exact hj _
  · simp only [if_neg h]
    exact hj _
end Go.Proofs.Ytgohhekihfilbaa.Pure
