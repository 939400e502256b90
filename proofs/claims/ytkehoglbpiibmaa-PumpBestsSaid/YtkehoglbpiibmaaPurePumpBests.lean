/- PumpBests: Best returns the choice and the power that are specified, or the first error. -/
import Derived.Test.YtkehoglbpiibmaaMx5
import Derived.Test.YtkehoglbpiibmaaGood
import Derived.Test.YtkehoglbpiibmaaPb
namespace Go.Proofs.Ytkehoglbpiibmaa.Pure
open Go.RowKit Go.Proofs.Ytkehoglbpiibmaa.M Go.Proofs.YtkehoglbpiibmaaW.PrintWords Go.Proofs.YtkehoglbpiibmaaW.PrintLast Go.Proofs.YtkehoglbpiibmaaW.PrintMore Go.Proofs.Ytkehoglbpiibmaa.Gd Go.Proofs.Ytkehoglbpiibmaa.Pl
theorem PumpBests : ∀ (l0 : List (S37)) (a1 : Int), l0.length * 24 ≤ 140737488351232 → (l0.length ≤ maxLen ∧ ∀ y ∈ l0, good37 y) → (Lit.int .i64 a1).wf = true → ∃ k, skiarealaw41_PumpBests.f k l0 a1 = some true := by
  intro l flow _ _ _
  refine Ev.rounds (g := fun k => skiarealaw41_PumpBests.f k l flow) ?_
  unfold skiarealaw41_PumpBests.f
  refine Ev.bind alive_ev ?_
  simp only [if_true]
  refine Ev.bind (rRight_ev l) ?_
  by_cases h : rightS l = 0
  · obtain ⟨hl, h1, h2⟩ := good_of h
    simp only [if_pos h]
    refine Ev.bind (Best_ev hl h1 h2 flow) ?_
    refine Ev.bind (rBest_ev hl h1 h2 flow) ?_
    have hlen : (bestS l flow).1.length < 4611686018427387904 := by
      by_cases hf : flow < 0
      · rw [best_neg l hf]; simp
      · rcases best_says l flow (by omega) with ⟨e, _⟩ | ⟨b, _, e, _⟩
        · rw [e]; simp
        · rw [e]; have := ch_length l.length b; simp only; omega
    refine Ev.bind (Same_ev _ hlen) ?_
    simp only [if_true, beq_self_eq_true]
    exact Ev.const _
  · simp only [if_neg h]
    exact Ev.const _
end Go.Proofs.Ytkehoglbpiibmaa.Pure
