/- RidesMerges: Merge returns the specified store or error. -/
import Derived.Test.YtgohhekihfilbaaMx9
import Derived.Test.YtgohhekihfilbaaGood
import Derived.Test.YtgohhekihfilbaaRn
namespace Go.Proofs.Ytgohhekihfilbaa.Pure
open Go.RowKit Go.Proofs.Ytgohhekihfilbaa.M Go.Proofs.YtgohhekihfilbaaW.PrintWords Go.Proofs.YtgohhekihfilbaaW.PrintLast Go.Proofs.YtgohhekihfilbaaW.PrintMore Go.Proofs.Ytgohhekihfilbaa.Gd Go.Proofs.Ytgohhekihfilbaa.Rl
theorem RidesMerges : ∀ (l0 : List (S28)) (l1 : List (S28)), l0.length * 56 ≤ 140737488351232 → (l0.length ≤ maxLen ∧ ∀ y ∈ l0, good28 y) → l1.length * 56 ≤ 140737488351232 → (l1.length ≤ maxLen ∧ ∀ y ∈ l1, good28 y) → ∃ k, skiarealaw31_RidesMerges.f k l0 l1 = some true := by
  intro l m _ _ _ _
  have ht : ∀ a b, Ev (fun k => skiarealaw31_RidesMerges.j0 k a b true) true := fun a b => Ev.at1 (by simp only [skiarealaw31_RidesMerges.j0, if_true]; exact Ev.const _)
  refine Ev.rounds (g := fun k => skiarealaw31_RidesMerges.f k l m) ?_
  unfold skiarealaw31_RidesMerges.f
  refine Ev.bind alive_ev ?_
  simp only [if_true]
  obtain ⟨b, hb, hs⟩ := right_ev l
  refine Ev.bind hb ?_
  cases b with
  | false => simp only [Bool.false_eq_true, if_false]; exact ht _ _
  | true =>
    simp only [if_true]
    obtain ⟨c, hc, hr⟩ := right_ev m
    refine Ev.bind hc ?_
    cases c with
    | false => exact ht _ _
    | true =>
      obtain ⟨h1, h2⟩ := hs.1 rfl
      obtain ⟨h3, h4⟩ := hr.1 rfl
      refine Ev.at1 ?_
      simp only [skiarealaw31_RidesMerges.j0, Bool.not_true, Bool.false_eq_true, if_false]
      refine Ev.bind (Merge_ev h2 h4 (by omega) (by omega)) ?_
      refine Ev.bind (rMerge_ev l m (by omega)) ?_
      refine Ev.bind (Same_self _ (by have := mres_len l m; omega)) ?_
      simp only [if_true, beq_self_eq_true]
      exact Ev.const _
end Go.Proofs.Ytgohhekihfilbaa.Pure
