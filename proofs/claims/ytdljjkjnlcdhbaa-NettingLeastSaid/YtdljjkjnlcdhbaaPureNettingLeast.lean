/- NettingLeast: the payments settle all positions, and no fewer do. -/
import Derived.Test.YtdljjkjnlcdhbaaMx12
import Derived.Test.YtdljjkjnlcdhbaaGood
import Derived.Test.YtdljjkjnlcdhbaaNa
namespace Go.Proofs.Ytdljjkjnlcdhbaa.Pure
open Go.RowKit Go.Proofs.Ytdljjkjnlcdhbaa.M Go.Proofs.YtdljjkjnlcdhbaaW.PrintWords Go.Proofs.YtdljjkjnlcdhbaaW.PrintLast Go.Proofs.YtdljjkjnlcdhbaaW.PrintMore Go.Proofs.Ytdljjkjnlcdhbaa.Gd Go.Proofs.Ytdljjkjnlcdhbaa.Nt Go.Proofs.Ytdljjkjnlcdhbaa.Mk
set_option linter.unusedSimpArgs false
set_option linter.unusedVariables false
theorem NettingLeast : ∀ (l0 : List (S34)) (l1 : List (S32)), l0.length * 16 ≤ 140737488351232 → (l0.length ≤ maxLen ∧ ∀ y ∈ l0, good34 y) → l1.length * 24 ≤ 140737488351232 → (l1.length ≤ maxLen ∧ ∀ y ∈ l1, good32 y) → ∃ k, skiarealaw37_NettingLeast.f k l0 l1 = some true := by
  intro l u _ _ _ _
  have hT : Ev (fun k => skiarealaw37_NettingLeast.j0 k l u true) true := Ev.at1 (by simp only [skiarealaw37_NettingLeast.j0, if_true]; exact Ev.const _)
  refine Ev.rounds (g := fun k => skiarealaw37_NettingLeast.f k l u) ?_
  unfold skiarealaw37_NettingLeast.f
  refine Ev.bind alive_ev ?_
  simp only [if_true]
  by_cases h : (l.length : Int) > 8
  · simp only [h, if_true]; exact hT
  simp only [h, if_false]
  refine Ev.bind (Right_ev l) ?_
  by_cases hr : rightS l = 0
  · simp only [hr, if_true]
    by_cases hu : (u.length : Int) > 1000
    · simp only [hu, decide_true]; exact hT
    · simp only [hu, decide_false]
      have hg := rightS_zero hr
      obtain ⟨t, ht, he⟩ := Net_ev hg
      have hl := ht.len_le hg
      have hv := Valid_ev hg (t := t) (by omega)
      rw [decide_eq_true ht.set] at hv
      refine Ev.at1 ?_
      simp only [skiarealaw37_NettingLeast.j0, Bool.false_eq_true, if_false]
      refine Ev.bind he (Ev.bind (Least_ev he) ?_)
      simp only [if_true]
      refine Ev.bind hv ?_
      simp only [if_true]
      refine Ev.bind (Valid_ev hg (t := u) (by omega)) ?_
      by_cases hs : settles l u
      · have := ht.least hg hs
        simp only [hs, decide_true, if_true]
        rw [show decide ((u.length : Int) ≥ (t.length : Int)) = true from decide_eq_true (by omega)]
        exact Ev.const _
      · simp only [hs, decide_false, Bool.false_eq_true, if_false]
        exact Ev.const _
  · simp only [hr, if_false]; exact hT
end Go.Proofs.Ytdljjkjnlcdhbaa.Pure
