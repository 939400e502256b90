/- PumpSums: Flow and Power return the sums of any choice. -/
import Derived.Test.YtkehoglbpiibmaaMx5
import Derived.Test.YtkehoglbpiibmaaGood
import Derived.Test.YtkehoglbpiibmaaPb
namespace Go.Proofs.Ytkehoglbpiibmaa.Pure
open Go.RowKit Go.Proofs.Ytkehoglbpiibmaa.M Go.Proofs.YtkehoglbpiibmaaW.PrintWords Go.Proofs.YtkehoglbpiibmaaW.PrintLast Go.Proofs.YtkehoglbpiibmaaW.PrintMore Go.Proofs.Ytkehoglbpiibmaa.Gd Go.Proofs.Ytkehoglbpiibmaa.Pl
theorem PumpSums : ∀ (l0 : List (S37)) (l1 : List Int), l0.length * 24 ≤ 140737488351232 → (l0.length ≤ maxLen ∧ ∀ y ∈ l0, good37 y) → l1.length * 8 ≤ 140737488351232 → (l1.length ≤ maxLen ∧ ∀ y ∈ l1, (Lit.int .i64 y).wf = true) → ∃ k, skiarealaw41_PumpSums.f k l0 l1 = some true := by
  intro l c _ _ hc8 _
  have hc : c.length < 4611686018427387904 := by omega
  refine Ev.rounds (g := fun k => skiarealaw41_PumpSums.f k l c) ?_
  unfold skiarealaw41_PumpSums.f
  refine Ev.bind alive_ev ?_
  simp only [if_true]
  refine Ev.bind (rRight_ev l) ?_
  by_cases h : rightS l = 0
  · obtain ⟨hl, h1, h2⟩ := good_of h
    simp only [if_pos h]
    refine Ev.at1 ?_
    simp only [skiarealaw41_PumpSums.j0]
    by_cases h60 : (c.length : Int) > 60
    · simp only [h60, decide_true, if_true]
      exact Ev.const _
    · simp only [h60, decide_false, Bool.false_eq_true, if_false]
      refine Ev.bind (Flow_ev hc (by omega) h1) ?_
      refine Ev.bind (rFlow_ev hc (by omega) h1) ?_
      simp only [if_true]
      refine Ev.bind (Power_ev hc (by omega) h2) ?_
      refine Ev.bind (rPower_ev hc (by omega) h2) ?_
      simp only [beq_self_eq_true]
      exact Ev.const _
  · simp only [if_neg h]
    refine Ev.at1 ?_
    simp only [skiarealaw41_PumpSums.j0, if_true]
    exact Ev.const _
end Go.Proofs.Ytkehoglbpiibmaa.Pure
