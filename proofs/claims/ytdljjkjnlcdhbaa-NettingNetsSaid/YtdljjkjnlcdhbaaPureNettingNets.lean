/- NettingNets: Net returns as many transfers as the reference counts, which settle the positions, in order. -/
import Derived.Test.YtdljjkjnlcdhbaaMx12
import Derived.Test.YtdljjkjnlcdhbaaGood
import Derived.Test.YtdljjkjnlcdhbaaNa
namespace Go.Proofs.Ytdljjkjnlcdhbaa.Pure
open Go.RowKit Go.Proofs.Ytdljjkjnlcdhbaa.M Go.Proofs.YtdljjkjnlcdhbaaW.PrintWords Go.Proofs.YtdljjkjnlcdhbaaW.PrintLast Go.Proofs.YtdljjkjnlcdhbaaW.PrintMore Go.Proofs.Ytdljjkjnlcdhbaa.Gd Go.Proofs.Ytdljjkjnlcdhbaa.Nt Go.Proofs.Ytdljjkjnlcdhbaa.Mk
set_option linter.unusedSimpArgs false
set_option linter.unusedVariables false
theorem nets_go (l : List S34) (hg : Nt.Good l) (t : List S32) (ht : NetOK l t) (hl : t.length ≤ 8) (d : Nat) : ∀ i : Nat, t.length - i = d → 1 ≤ i → Ev (fun k => skiarealaw37_NettingNets.l0 k l t (i : Int)) true := by
  induction d with
  | zero =>
    intro i hd h1
    refine Ev.at1 ?_
    simp only [skiarealaw37_NettingNets.l0, if_neg (show ¬ ((i : Int) < (t.length : Int)) by omega)]
    refine Ev.bind (RLeast_ev hg ht) ?_
    simp only [if_true]
    have := RValid_ev hg (t := t) (by omega)
    rw [decide_eq_true ht.set] at this
    exact Ev.bind this (Ev.const _)
  | succ d ih =>
    intro i hd h1
    have hlt : i < t.length := by omega
    have ih' := ih (i + 1) (by omega) (by omega)
    have ho := List.pairwise_iff_getElem.1 ht.ord (i - 1) i (by omega) hlt (by omega)
    unfold ltT at ho
    refine Ev.at1 ?_
    rw [cast1'] at ih'
    simp only [skiarealaw37_NettingNets.l0, if_pos (show (i : Int) < (t.length : Int) by omega), if_pos (show (0 : Int) ≤ (i : Int) by omega)]
    rw [w64 (n := (i : Int) - 1) (by omega) (by omega), w64 (n := (i : Int) + 1) (by omega) (by omega), show (i : Int) - 1 = ((i - 1 : Nat) : Int) by omega]
    simp only [if_pos (show (0 : Int) ≤ ((i - 1 : Nat) : Int) by omega), if_pos (show ((i - 1 : Nat) : Int) < (t.length : Int) by omega), rd32 hlt, rd32 (show i - 1 < t.length by omega), if_neg (show ¬ (t[i].f0 < t[i - 1].f0) by omega)]
    by_cases e : t[i].f0 = t[i - 1].f0
    · simp only [e, if_true, if_neg (show ¬ (t[i].f1 ≤ t[i - 1].f1) by omega)]
      exact ih'
    · simp only [e, if_false]
      exact ih'
theorem NettingNets : ∀ (l0 : List (S34)), l0.length * 16 ≤ 140737488351232 → (l0.length ≤ maxLen ∧ ∀ y ∈ l0, good34 y) → ∃ k, skiarealaw37_NettingNets.f k l0 = some true := by
  intro l _ _
  have hT : Ev (fun k => skiarealaw37_NettingNets.j0 k l true) true := Ev.at1 (by simp only [skiarealaw37_NettingNets.j0, if_true]; exact Ev.const _)
  refine Ev.rounds (g := fun k => skiarealaw37_NettingNets.f k l) ?_
  unfold skiarealaw37_NettingNets.f
  refine Ev.bind alive_ev ?_
  simp only [if_true]
  by_cases h : (l.length : Int) > 8
  · simp only [h, if_true]; exact hT
  simp only [h, if_false]
  refine Ev.bind (RRight_ev l) ?_
  by_cases hr : rightS l = 0
  · have e : (rightS l != 0) = false := by simp [hr]
    simp only [e]
    obtain ⟨t, ht, he⟩ := Net_ev (rightS_zero hr)
    have hl := ht.len_le (rightS_zero hr)
    refine Ev.at1 ?_
    simp only [skiarealaw37_NettingNets.j0, Bool.false_eq_true, if_false]
    refine Ev.bind he ?_
    exact nets_go l (rightS_zero hr) t ht hl _ 1 rfl (by omega)
  · have e : (rightS l != 0) = true := by simp [hr]
    simp only [e]
    exact hT
end Go.Proofs.Ytdljjkjnlcdhbaa.Pure
