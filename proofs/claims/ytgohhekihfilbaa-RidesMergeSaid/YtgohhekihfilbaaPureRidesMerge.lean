/- RidesMerge: merging stores is commutative, associative and idempotent. -/
import Derived.Test.YtgohhekihfilbaaMx11
import Derived.Test.YtgohhekihfilbaaGood
import Derived.Test.YtgohhekihfilbaaRb
namespace Go.Proofs.Ytgohhekihfilbaa.Pure
open Go.RowKit Go.Proofs.Ytgohhekihfilbaa.M Go.Proofs.YtgohhekihfilbaaW.PrintWords Go.Proofs.YtgohhekihfilbaaW.PrintLast Go.Proofs.YtgohhekihfilbaaW.PrintMore Go.Proofs.Ytgohhekihfilbaa.Gd Go.Proofs.Ytgohhekihfilbaa.Rl
theorem RidesMerge : ∀ (l0 : List (S28)) (l1 : List (S28)) (l2 : List (S28)), l0.length * 56 ≤ 140737488351232 → (l0.length ≤ maxLen ∧ ∀ y ∈ l0, good28 y) → l1.length * 56 ≤ 140737488351232 → (l1.length ≤ maxLen ∧ ∀ y ∈ l1, good28 y) → l2.length * 56 ≤ 140737488351232 → (l2.length ≤ maxLen ∧ ∀ y ∈ l2, good28 y) → ∃ k, skiarealaw31_RidesMerge.f k l0 l1 l2 = some true := by
  intro A B C _ _ _ _ _ _
  have ht : ∀ a b c, Ev (fun k => skiarealaw31_RidesMerge.j0 k a b c true) true := fun a b c => Ev.at1 (by simp only [skiarealaw31_RidesMerge.j0, if_true]; exact Ev.const _)
  refine Ev.rounds (g := fun k => skiarealaw31_RidesMerge.f k A B C) ?_
  unfold skiarealaw31_RidesMerge.f
  refine Ev.bind alive_ev ?_
  simp only [if_true]
  obtain ⟨b1, hb1, hs1⟩ := right_ev A
  refine Ev.bind hb1 ?_
  cases b1 with
  | false => simp only [Bool.false_eq_true, if_false]; exact ht _ _ _
  | true =>
  simp only [if_true]
  obtain ⟨b2, hb2, hs2⟩ := right_ev B
  refine Ev.bind hb2 ?_
  cases b2 with
  | false => simp only [Bool.false_eq_true, if_false]; exact ht _ _ _
  | true =>
  simp only [if_true]
  obtain ⟨b3, hb3, hs3⟩ := right_ev C
  refine Ev.bind hb3 ?_
  cases b3 with
  | false => exact ht _ _ _
  | true =>
  obtain ⟨lA, sA⟩ := hs1.1 rfl
  obtain ⟨lB, sB⟩ := hs2.1 rfl
  obtain ⟨lC, sC⟩ := hs3.1 rfl
  clear hs1 hs2 hs3 hb1 hb2 hb3 ht
  have sN : Rl.store ([] : List S28) := ⟨fun x hx => by simp at hx, List.Pairwise.nil⟩
  refine Ev.at1 ?_
  simp only [skiarealaw31_RidesMerge.j0, Bool.not_true, Bool.false_eq_true, if_false]
  refine Ev.bind (Merge_ev sA sB (by omega) (by omega)) ?_
  refine Ev.bind (Merge_ev sB sA (by omega) (by omega)) ?_
  refine Ev.bind (Merge_ev sA sA (by omega) (by omega)) ?_
  refine Ev.bind (Merge_ev sA sN (by omega) (by simp)) ?_
  -- commutative, idempotent
  have hcomm : mres A B = mres B A := by
    by_cases h : conf A B
    · rw [mres_none sA.2 sB.2 h, mres_none sB.2 sA.2 (conf_symm h)]
    · obtain ⟨m, e1, p1, q1, _⟩ := mres_some sA.2 sB.2 h (by omega)
      obtain ⟨m', e2, p2, q2, _⟩ := mres_some sB.2 sA.2 (fun h' => h (conf_symm h')) (by omega)
      rw [e1, e2, sorted_ext p1 p2 (fun x => by rw [q1, q2, or_comm])]
  have hself : mres A A = (A, 0) := by
    obtain ⟨m, e1, p1, q1, _⟩ := mres_some sA.2 sA.2 (not_conf_self sA.2) (by omega)
    rw [e1, sorted_ext p1 sA.2 (fun x => by rw [q1, or_self])]
  have hnil : mres A [] = (A, 0) := by
    obtain ⟨m, e1, p1, q1, _⟩ := mres_some sA.2 sN.2 (not_conf_nil A) (by simp; omega)
    rw [e1, sorted_ext p1 sA.2 (fun x => by rw [q1]; simp)]
  rw [← hcomm, hself, hnil]
  simp only [if_true]
  refine Ev.bind (Same_self _ (by have := mres_len A B; omega)) ?_
  simp only [if_true]
  refine Ev.bind (Same_self _ (by omega)) ?_
  simp only [if_true]
  refine Ev.bind (Same_self _ (by omega)) ?_
  refine Ev.at1 ?_
  simp only [skiarealaw31_RidesMerge.j1, Bool.not_true, Bool.false_eq_true, if_false]
  refine Ev.bind (Merge_ev sB sC (by omega) (by omega)) ?_
  have same0 := Same_self [] (by simp)
  by_cases hAB : conf A B
  · rw [mres_none sA.2 sB.2 hAB]
    simp only [show ¬ ((15 : Int) = 0) by decide, if_false]
    refine Ev.at1 ?_
    simp only [skiarealaw31_RidesMerge.j2]
    by_cases hBC : conf B C
    · rw [mres_none sB.2 sC.2 hBC]
      simp only [show ¬ ((15 : Int) = 0) by decide, if_false, if_true]
      refine Ev.bind same0 ?_
      simp only [if_true, List.length_nil, Int.natCast_zero]
      exact Ev.const _
    · obtain ⟨m2, e2, p2, q2, l2, _⟩ := mres_some sB.2 sC.2 hBC (by omega)
      rw [e2]
      simp only [if_true]
      refine Ev.bind (Merge_ev sA (store_of p2 q2 sB sC) (by omega) (by omega)) ?_
      rw [mres_none sA.2 p2 (conf_symm ((conf_left q2).2 (.inl (conf_symm hAB))))]
      simp only [if_true]
      refine Ev.bind same0 ?_
      simp only [if_true, show ¬ ((15 : Int) = 0) by decide, if_false, List.length_nil, Int.natCast_zero]
      exact Ev.const _
  · obtain ⟨m1, e1, p1, q1, l1, _⟩ := mres_some sA.2 sB.2 hAB (by omega)
    have s1 := store_of p1 q1 sA sB
    rw [e1]
    simp only [if_true]
    refine Ev.bind (Merge_ev s1 sC (by omega) (by omega)) ?_
    refine Ev.at1 ?_
    simp only [skiarealaw31_RidesMerge.j2]
    by_cases hBC : conf B C
    · rw [mres_none sB.2 sC.2 hBC, mres_none p1 sC.2 ((conf_left q1).2 (.inr hBC))]
      simp only [show ¬ ((15 : Int) = 0) by decide, if_false, if_true]
      refine Ev.bind same0 ?_
      simp only [if_true]
      exact Ev.const _
    · obtain ⟨m2, e2, p2, q2, l2, _⟩ := mres_some sB.2 sC.2 hBC (by omega)
      have s2 := store_of p2 q2 sB sC
      rw [e2]
      simp only [if_true]
      refine Ev.bind (Merge_ev sA s2 (by omega) (by omega)) ?_
      by_cases hAC : conf A C
      · rw [mres_none p1 sC.2 ((conf_left q1).2 (.inl hAC)), mres_none sA.2 p2 (conf_symm ((conf_left q2).2 (.inr (conf_symm hAC))))]
        simp only [if_true]
        refine Ev.bind same0 ?_
        simp only [if_true, show ¬ ((15 : Int) = 0) by decide, if_false]
        exact Ev.const _
      · have hn1 : ¬ conf m1 C := fun h => ((conf_left q1).1 h).elim hAC hBC
        have hn2 : ¬ conf A m2 := fun h => ((conf_left q2).1 (conf_symm h)).elim (fun h => hAB (conf_symm h)) (fun h => hAC (conf_symm h))
        obtain ⟨m3, e3, p3, q3, l3, _⟩ := mres_some p1 sC.2 hn1 (by omega)
        obtain ⟨m4, e4, p4, q4, l4, _⟩ := mres_some sA.2 p2 hn2 (by omega)
        have : m3 = m4 := sorted_ext p3 p4 (fun x => by rw [q3, q4, q1, q2, or_assoc])
        subst this
        rw [e3, e4]
        simp only [if_true]
        refine Ev.bind (Same_self _ (by omega)) ?_
        simp only [if_true]
        have hr := Right_ev m3
        rw [rightS_zero.2 ⟨by omega, store_of p3 q3 s1 sC⟩] at hr
        refine Ev.bind hr ?_
        exact Ev.const _
end Go.Proofs.Ytgohhekihfilbaa.Pure
