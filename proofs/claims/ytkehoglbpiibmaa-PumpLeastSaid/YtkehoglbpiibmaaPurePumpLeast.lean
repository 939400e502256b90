/- PumpLeast: no choice of pumps that delivers enough takes less power than the one that Best returns. -/
import Derived.Test.YtkehoglbpiibmaaMx6
import Derived.Test.YtkehoglbpiibmaaGood
import Derived.Test.YtkehoglbpiibmaaPb
namespace Go.Proofs.Ytkehoglbpiibmaa.Pure
open Go.RowKit Go.Proofs.Ytkehoglbpiibmaa.M Go.Proofs.YtkehoglbpiibmaaW.PrintWords Go.Proofs.YtkehoglbpiibmaaW.PrintLast Go.Proofs.YtkehoglbpiibmaaW.PrintMore Go.Proofs.Ytkehoglbpiibmaa.Gd Go.Proofs.Ytkehoglbpiibmaa.Pl
/-- The choice that is returned is one: its numbers are there, and increase. -/
theorem least_loop (l : List S37) (flow : Int) (c x : List Int) (n : Int) (hx : x.length < 4611686018427387904) (hr : ∀ y ∈ x, 0 ≤ y ∧ y < (l.length : Int)) (hs : x.Pairwise (· < ·))
    (hend : Ev (fun k => (pump_Flow.f k l c).bind fun t255 => (if t255 < flow then (some true) else ((pump_Power.f k l c).bind fun t256 => (some (decide (t256 ≥ n)))))) true) (d : Nat) : ∀ j : Nat, x.length - j = d → j ≤ x.length →
    Ev (fun k => skiarealaw41_PumpLeast.l0 k l flow c x n (j : Int)) true := by
  induction d with
  | zero =>
    intro j hd hj
    refine Ev.at1 ?_
    simp only [skiarealaw41_PumpLeast.l0, if_neg (show ¬ ((j : Int) < (x.length : Int)) by omega)]
    exact hend
  | succ d ih =>
    intro j hd hj
    have hlt : j < x.length := by omega
    have hrd : rd x (j : Int) = x[j] := by simp [rd, hlt]
    have h0 := hr x[j] (List.getElem_mem hlt)
    have hn := ih (j + 1) (by omega) (by omega)
    have ew : wrap64 ((j : Int) + 1) = ((j + 1 : Nat) : Int) := by rw [w64 (by omega) (by omega)]; rfl
    refine Ev.at1 ?_
    simp only [skiarealaw41_PumpLeast.l0, if_pos (show (j : Int) < (x.length : Int) by omega), if_pos (show (0 : Int) ≤ (j : Int) by omega), hrd, if_neg (show ¬ x[j] < 0 by omega), if_neg (show ¬ x[j] ≥ (l.length : Int) by omega), ew]
    by_cases hj0 : j = 0
    · simp only [if_neg (show ¬ (j : Int) > 0 by omega)]
      exact hn
    · have hp : wrap64 ((j : Int) - 1) = ((j - 1 : Nat) : Int) := by rw [w64 (by omega) (by omega)]; omega
      have hrp : rd x ((j - 1 : Nat) : Int) = x[j - 1] := by simp [rd, show j - 1 < x.length by omega]
      have hlt2 : x[j - 1] < x[j] := List.pairwise_iff_getElem.1 hs (j - 1) j (by omega) hlt (by omega)
      simp only [if_pos (show (j : Int) > 0 by omega), hp, if_pos (show (0 : Int) ≤ ((j - 1 : Nat) : Int) by omega), if_pos (show ((j - 1 : Nat) : Int) < (x.length : Int) by omega), hrp, if_neg (show ¬ x[j] ≤ x[j - 1] by omega)]
      exact hn
theorem PumpLeast : ∀ (l0 : List (S37)) (a1 : Int) (l2 : List Int), l0.length * 24 ≤ 140737488351232 → (l0.length ≤ maxLen ∧ ∀ y ∈ l0, good37 y) → (Lit.int .i64 a1).wf = true → l2.length * 8 ≤ 140737488351232 → (l2.length ≤ maxLen ∧ ∀ y ∈ l2, (Lit.int .i64 y).wf = true) → ∃ k, skiarealaw41_PumpLeast.f k l0 a1 l2 = some true := by
  intro l flow c _ _ _ hc8 _
  have hc : c.length < 4611686018427387904 := by omega
  refine Ev.rounds (g := fun k => skiarealaw41_PumpLeast.f k l flow c) ?_
  unfold skiarealaw41_PumpLeast.f
  refine Ev.bind alive_ev ?_
  simp only [if_true]
  refine Ev.bind (Right_ev l) ?_
  by_cases h : rightS l = 0
  · obtain ⟨hl, h1, h2⟩ := good_of h
    simp only [if_pos h]
    refine Ev.at1 ?_
    simp only [skiarealaw41_PumpLeast.j0]
    by_cases h60 : (c.length : Int) > 60
    · simp only [h60, decide_true, if_true]
      exact Ev.const _
    · simp only [h60, decide_false, Bool.false_eq_true, if_false]
      refine Ev.bind (Best_ev hl h1 h2 flow) ?_
      by_cases hf : flow < 0
      · rw [best_neg l hf]
        simp only [if_neg (show ¬ ((2 : Int) = 0) by omega), List.length_nil, Int.natCast_zero, if_true, if_pos hf]
        exact Ev.const _
      · rcases best_says l flow (by omega) with ⟨e, hno⟩ | ⟨b, hb, e, hok, hmin⟩
        · rw [e]
          simp only [if_neg (show ¬ ((9 : Int) = 0) by omega), List.length_nil, Int.natCast_zero, if_true, if_neg hf]
          refine Ev.bind (Flow_ev hc (by omega) h1) ?_
          rw [decide_eq_true (hno c)]
          exact Ev.const _
        · rw [e]
          have hcl : (ch l.length b).length < 4611686018427387904 := by have := ch_length l.length b; omega
          simp only [if_true, if_neg hf]
          refine Ev.bind (Flow_ev hcl (by omega) h1) ?_
          simp only [if_neg (show ¬ ss (fun x => x.f1) (ch l.length b) 0 l < flow by omega)]
          refine Ev.bind (Power_ev hcl (by omega) h2) ?_
          refine Ev.at1 ?_
          simp only [skiarealaw41_PumpLeast.j1, bne_self_eq_false, Bool.false_eq_true, if_false]
          refine least_loop l flow c _ _ hcl (fun y hy => ch_range hy) (ch_sorted _ _) ?_ _ 0 rfl (by omega)
          refine Ev.bind (Flow_ev hc (by omega) h1) ?_
          by_cases hfc : ss (fun x => x.f1) c 0 l < flow
          · simp only [if_pos hfc]
            exact Ev.const _
          · simp only [if_neg hfc]
            refine Ev.bind (Power_ev hc (by omega) h2) ?_
            rw [decide_eq_true (hmin c (by omega))]
            exact Ev.const _
  · simp only [if_neg h]
    refine Ev.at1 ?_
    simp only [skiarealaw41_PumpLeast.j0, if_true]
    exact Ev.const _
end Go.Proofs.Ytkehoglbpiibmaa.Pure
