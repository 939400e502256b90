/- PumpMore: a greater flow never takes less power, and is found whenever it is there. -/
import Derived.Test.YtkehoglbpiibmaaMx7
import Derived.Test.YtkehoglbpiibmaaGood
import Derived.Test.YtkehoglbpiibmaaPb
namespace Go.Proofs.Ytkehoglbpiibmaa.Pure
open Go.RowKit Go.Proofs.Ytkehoglbpiibmaa.M Go.Proofs.YtkehoglbpiibmaaW.PrintWords Go.Proofs.YtkehoglbpiibmaaW.PrintLast Go.Proofs.YtkehoglbpiibmaaW.PrintMore Go.Proofs.Ytkehoglbpiibmaa.Gd Go.Proofs.Ytkehoglbpiibmaa.Pl
theorem PumpMore : ∀ (l0 : List (S37)) (a1 : Int) (a2 : Int), l0.length * 24 ≤ 140737488351232 → (l0.length ≤ maxLen ∧ ∀ y ∈ l0, good37 y) → (Lit.int .i64 a1).wf = true → (Lit.int .i64 a2).wf = true → ∃ k, skiarealaw41_PumpMore.f k l0 a1 a2 = some true := by
  intro l flow more _ _ _ _
  refine Ev.rounds (g := fun k => skiarealaw41_PumpMore.f k l flow more) ?_
  unfold skiarealaw41_PumpMore.f
  refine Ev.bind alive_ev ?_
  simp only [if_true]
  refine Ev.bind (Right_ev l) ?_
  by_cases h : rightS l = 0
  · obtain ⟨hl, h1, h2⟩ := good_of h
    simp only [if_pos h]
    refine Ev.at1 ?_
    simp only [skiarealaw41_PumpMore.j0]
    by_cases hgt : flow > more
    · simp only [hgt, decide_true, if_true]
      exact Ev.const _
    · simp only [hgt, decide_false, Bool.false_eq_true, if_false]
      refine Ev.bind (Best_ev hl h1 h2 flow) ?_
      refine Ev.bind (Best_ev hl h1 h2 more) ?_
      by_cases hm : more < 0
      · rw [best_neg l hm]
        simp only [if_neg (show ¬ ((2 : Int) = 0) by omega), beq_self_eq_true]
        exact Ev.const _
      · rcases best_says l more (by omega) with ⟨e, _⟩ | ⟨b, hb, e, hok, hmin⟩
        · rw [e]
          simp only [if_neg (show ¬ ((9 : Int) = 0) by omega), beq_self_eq_true]
          exact Ev.const _
        · rw [e]
          simp only [if_true]
          by_cases hf : flow < 0
          · simp only [if_pos hf]
            exact Ev.const _
          · rcases best_says l flow (by omega) with ⟨_, hno⟩ | ⟨b', _, e', _, hmin'⟩
            · have := hno (ch l.length b)
              omega
            · rw [e']
              have := hmin' (ch l.length b) (by omega)
              simp only [if_neg hf, if_true, decide_eq_true this]
              exact Ev.const _
  · simp only [if_neg h]
    refine Ev.at1 ?_
    simp only [skiarealaw41_PumpMore.j0, if_true]
    exact Ev.const _
end Go.Proofs.Ytkehoglbpiibmaa.Pure
