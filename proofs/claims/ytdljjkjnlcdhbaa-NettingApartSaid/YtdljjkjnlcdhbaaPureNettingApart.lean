/- NettingApart: positions of different operators can be settled separately. -/
import Derived.Test.YtdljjkjnlcdhbaaMx14
import Derived.Test.YtdljjkjnlcdhbaaGood
import Derived.Test.YtdljjkjnlcdhbaaNa
namespace Go.Proofs.Ytdljjkjnlcdhbaa.Pure
open Go.RowKit Go.Proofs.Ytdljjkjnlcdhbaa.M Go.Proofs.YtdljjkjnlcdhbaaW.PrintWords Go.Proofs.YtdljjkjnlcdhbaaW.PrintLast Go.Proofs.YtdljjkjnlcdhbaaW.PrintMore Go.Proofs.Ytdljjkjnlcdhbaa.Gd Go.Proofs.Ytdljjkjnlcdhbaa.Nt Go.Proofs.Ytdljjkjnlcdhbaa.Mk
set_option linter.unusedSimpArgs false
set_option linter.unusedVariables false
theorem apart_core (l a b : List S34) (e : l = a ++ b) (hl : Nt.Good l) (ha : Nt.Good a) (hb : Nt.Good b) : Ev (fun k => skiarealaw37_NettingApart.j0 k l a b false) true := by
  obtain ⟨t, ht, he⟩ := Net_ev hl
  obtain ⟨ta, hta, hea⟩ := Net_ev ha
  obtain ⟨tb, htb, heb⟩ := Net_ev hb
  have l1 := hta.len_le ha
  have l2 := htb.len_le hb
  have l3 := ht.len_le hl
  have hset : settles l (ta ++ tb) := by
    refine ⟨fun x hx => ?_, fun i hi => ?_⟩
    · rcases List.mem_append.1 hx with hx | hx
      · exact hta.set.1 x hx
      · exact htb.set.1 x hx
    · have h1 : balance a i - eff ta i = 0 := hta.set.2 i hi
      have h2 : balance b i - eff tb i = 0 := htb.set.2 i hi
      have h3 : balance l i = balance a i + balance b i := by rw [e]; exact sm_append _ a b
      show balance l i - eff (ta ++ tb) i = 0
      rw [eff_append, h3]
      omega
  have hle := ht.least hl hset
  rw [List.length_append] at hle
  have hv := Valid_ev hl (t := ta ++ tb) (by rw [List.length_append]; omega)
  rw [decide_eq_true hset] at hv
  refine Ev.at1 ?_
  simp only [skiarealaw37_NettingApart.j0, Bool.false_eq_true, if_false, Option.bind_some, List.length_nil, Nat.zero_add, List.nil_append]
  refine Ev.bind hea ?_
  simp only [if_pos (show ta.length < 5864062014805 by omega)]
  refine Ev.bind heb ?_
  simp only [if_pos (show ta.length + tb.length < 5864062014805 by omega)]
  refine Ev.bind hv ?_
  simp only [if_true]
  refine Ev.bind (Least_ev he) (Ev.bind (Least_ev hea) (Ev.bind (Least_ev heb) ?_))
  rw [w64 (n := (ta.length : Int) + (tb.length : Int)) (by omega) (by omega), decide_eq_true (by omega)]
  exact Ev.const _
theorem NettingApart : ∀ (l0 : List (S34)) (a1 : Int), l0.length * 16 ≤ 140737488351232 → (l0.length ≤ maxLen ∧ ∀ y ∈ l0, good34 y) → (Lit.int .u8 a1).wf = true → ∃ k, skiarealaw37_NettingApart.f k l0 a1 = some true := by
  intro l c _ _ hc
  have hT : ∀ a b, Ev (fun k => skiarealaw37_NettingApart.j0 k l a b true) true := fun a b => Ev.at1 (by simp only [skiarealaw37_NettingApart.j0, if_true]; exact Ev.const _)
  refine Ev.rounds (g := fun k => skiarealaw37_NettingApart.f k l c) ?_
  unfold skiarealaw37_NettingApart.f
  refine Ev.bind alive_ev ?_
  simp only [if_true]
  by_cases h : (l.length : Int) > 8
  · simp only [h, if_true]; exact Ev.const _
  simp only [h, if_false]
  have hc' : 0 ≤ c ∧ c ≤ 255 := by
    have h2 : (decide (0 ≤ c) && decide (c ≤ 255)) = true := hc
    simpa using h2
  rw [w64 (n := c) (by omega) (by omega), w64 (n := (l.length : Int) + 1) (by omega) (by omega)]
  simp only [if_neg (show ¬ ((l.length : Int) + 1 = 0) by omega)]
  have e1 : Int.tmod c ((l.length : Int) + 1) = c % ((l.length : Int) + 1) := Int.tmod_eq_emod_of_nonneg (by omega)
  rw [e1]
  have e2 := Int.emod_nonneg c (show ((l.length : Int) + 1) ≠ 0 by omega)
  have e3 := Int.emod_lt_of_pos c (show (0 : Int) < (l.length : Int) + 1 by omega)
  generalize c % ((l.length : Int) + 1) = i at *
  simp only [if_pos e2, if_pos (show i ≤ (l.length : Int) by omega), Option.bind_some]
  have hl0 := Right_ev l
  refine Ev.bind hl0 ?_
  by_cases h1 : rightS l = 0
  · simp only [h1, if_true]
    refine Ev.bind (Right_ev (l.take i.toNat)) ?_
    by_cases h2 : rightS (l.take i.toNat) = 0
    · simp only [h2, if_true]
      refine Ev.bind (Right_ev (l.drop i.toNat)) ?_
      by_cases h3 : rightS (l.drop i.toNat) = 0
      · have e : (rightS (l.drop i.toNat) != 0) = false := by simp [h3]
        simp only [e]
        exact apart_core l _ _ (List.take_append_drop _ _).symm (rightS_zero h1) (rightS_zero h2) (rightS_zero h3)
      · have e : (rightS (l.drop i.toNat) != 0) = true := by simp [h3]
        simp only [e]
        exact hT _ _
    · simp only [h2, if_false]
      exact hT _ _
  · simp only [h1, if_false]
    exact hT _ _
end Go.Proofs.Ytdljjkjnlcdhbaa.Pure
