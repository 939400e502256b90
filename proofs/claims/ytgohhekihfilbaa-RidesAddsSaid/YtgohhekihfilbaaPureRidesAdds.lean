/- RidesAdds: Add returns the specified store or error. -/
import Derived.Test.YtgohhekihfilbaaMx9
import Derived.Test.YtgohhekihfilbaaGood
import Derived.Test.YtgohhekihfilbaaRn
namespace Go.Proofs.Ytgohhekihfilbaa.Pure
open Go.RowKit Go.Proofs.Ytgohhekihfilbaa.M Go.Proofs.YtgohhekihfilbaaW.PrintWords Go.Proofs.YtgohhekihfilbaaW.PrintLast Go.Proofs.YtgohhekihfilbaaW.PrintMore Go.Proofs.Ytgohhekihfilbaa.Gd Go.Proofs.Ytgohhekihfilbaa.Rl
theorem RidesAdds : ∀ (l0 : List (S28)) (x1 : S28), l0.length * 56 ≤ 140737488351232 → (l0.length ≤ maxLen ∧ ∀ y ∈ l0, good28 y) → good28 x1 → ∃ k, skiarealaw31_RidesAdds.f k l0 x1.f0 x1.f1 x1.f2 x1.f3 x1.f4 x1.f5 x1.f6 = some true := by
  intro l x _ _ _
  refine Ev.rounds (g := fun k => skiarealaw31_RidesAdds.f k l x.f0 x.f1 x.f2 x.f3 x.f4 x.f5 x.f6) ?_
  unfold skiarealaw31_RidesAdds.f
  refine Ev.bind alive_ev ?_
  simp only [if_true]
  obtain ⟨b, hb, hs⟩ := right_ev l
  refine Ev.bind hb ?_
  cases b with
  | false => simp only [Bool.false_eq_true, if_false]; exact Ev.const _
  | true =>
    obtain ⟨h1, h2⟩ := hs.1 rfl
    simp only [if_true]
    refine Ev.bind (Add_ev h2 (by omega) x) ?_
    refine Ev.bind (rAdd_ev (by omega) x) ?_
    refine Ev.bind (Same_self _ (by have := addS_len l x; omega)) ?_
    simp only [if_true, beq_self_eq_true]
    exact Ev.const _
end Go.Proofs.Ytgohhekihfilbaa.Pure
