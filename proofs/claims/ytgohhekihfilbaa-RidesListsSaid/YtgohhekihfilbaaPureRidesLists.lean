/- RidesLists: Of, Gaps and Upto return what is specified. -/
import Derived.Test.YtgohhekihfilbaaMx16
import Derived.Test.YtgohhekihfilbaaGood
import Derived.Test.YtgohhekihfilbaaRo
namespace Go.Proofs.Ytgohhekihfilbaa.Pure
open Go.RowKit Go.Proofs.Ytgohhekihfilbaa.M Go.Proofs.YtgohhekihfilbaaW.PrintWords Go.Proofs.YtgohhekihfilbaaW.PrintLast Go.Proofs.YtgohhekihfilbaaW.PrintMore Go.Proofs.Ytgohhekihfilbaa.Gd Go.Proofs.Ytgohhekihfilbaa.Rl
set_option linter.unusedVariables false
theorem RidesLists : ∀ (l0 : List (S28)) (a1 : Int) (a2 : Int), l0.length * 56 ≤ 140737488351232 → (l0.length ≤ maxLen ∧ ∀ y ∈ l0, good28 y) → (Lit.int .i64 a1).wf = true → (Lit.int .i64 a2).wf = true → ∃ k, skiarealaw31_RidesLists.f k l0 a1 a2 = some true := by
  intro l s g _ _ _ _
  refine Ev.rounds (g := fun k => skiarealaw31_RidesLists.f k l s g) ?_
  unfold skiarealaw31_RidesLists.f
  refine Ev.bind alive_ev ?_
  simp only [if_true]
  obtain ⟨b1, hb1, hs1⟩ := right_ev l
  refine Ev.bind hb1 ?_
  cases b1 with
  | false => simp only [Bool.false_eq_true, if_false]; exact Ev.const _
  | true =>
    simp only [if_true]
    obtain ⟨hl, hs⟩ := hs1.1 rfl
    have hlen : (Sr.srt rides_Of_2_cf (l.filter (isS s))).length ≤ 300 := by
      rw [(Sr.srt_spec rides_Of_2_cf rides_Of_2_swo _).1.length_eq]
      have := List.length_filter_le (isS s) l
      omega
    refine Ev.bind (Of_ev l s (by omega)) (Ev.bind (ROf_ev l hs s (by omega)) (Ev.bind (Same_self _ (by omega)) ?_))
    simp only [if_true]
    obtain ⟨M, hM⟩ := Gr.ex hs g
    obtain ⟨G, hG, heG⟩ := Gaps_spec l hs (by omega) hM
    obtain ⟨u, hu, _, heu⟩ := Upto_spec l hs (by omega) g
    have hG2 : Ev (fun k => skiarearef31_Gaps.f k l g) G := Ev.congr (fun k => (RGaps_eq l g k).1 _ _ _) heG
    have hu2 : Ev (fun k => skiarearef31_Upto.f k l g) u := Ev.congr (fun k => RUpto_eq l g k _ _) heu
    have hlG := hG.len
    refine Ev.bind heG (Ev.bind hG2 (Ev.bind (SameInts_self G (by omega)) ?_))
    simp only [if_true]
    refine Ev.bind heu (Ev.bind hu2 ?_)
    simp only [beq_self_eq_true]
    exact Ev.const _
end Go.Proofs.Ytgohhekihfilbaa.Pure
