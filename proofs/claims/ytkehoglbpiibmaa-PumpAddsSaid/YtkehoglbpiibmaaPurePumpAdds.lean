/- PumpAdds: with another pump, no flow takes more power than before. -/
import Derived.Test.YtkehoglbpiibmaaMx8
import Derived.Test.YtkehoglbpiibmaaGood
import Derived.Test.YtkehoglbpiibmaaPb
namespace Go.Proofs.Ytkehoglbpiibmaa.Pure
open Go.RowKit Go.Proofs.Ytkehoglbpiibmaa.M Go.Proofs.YtkehoglbpiibmaaW.PrintWords Go.Proofs.YtkehoglbpiibmaaW.PrintLast Go.Proofs.YtkehoglbpiibmaaW.PrintMore Go.Proofs.Ytkehoglbpiibmaa.Gd Go.Proofs.Ytkehoglbpiibmaa.Pl
/-- A choice of the first pumps, of more pumps. -/
theorem ss_append (of : S37 → Int) (c : List Int) (x : S37) : ∀ (l : List S37) (i : Nat), ¬ (((i + l.length : Nat) : Int) ∈ c) → ss of c i (l ++ [x]) = ss of c i l
  | [], i, h => by simp [ss] at h ⊢; simp [h]
  | y :: r, i, h => by
    simp only [List.cons_append, ss]
    rw [ss_append of c x r (i + 1) (by rw [List.length_cons] at h; rw [show i + 1 + r.length = i + (r.length + 1) by omega]; exact h)]
theorem PumpAdds : ∀ (l0 : List (S37)) (x1 : S37) (a2 : Int), l0.length * 24 ≤ 140737488351232 → (l0.length ≤ maxLen ∧ ∀ y ∈ l0, good37 y) → good37 x1 → (Lit.int .i64 a2).wf = true → ∃ k, skiarealaw41_PumpAdds.f k l0 x1.f0 x1.f1 x1.f2 a2 = some true := by
  intro l x flow hb _ _ _
  refine Ev.rounds (g := fun k => skiarealaw41_PumpAdds.f k l x.f0 x.f1 x.f2 flow) ?_
  unfold skiarealaw41_PumpAdds.f
  refine Ev.bind alive_ev ?_
  simp only [if_true, Option.bind_some, List.nil_append, List.length_nil, List.length_cons, Nat.zero_add]
  simp only [if_pos (show l.length < 5864062014805 by omega), if_pos (show l.length + 1 < 5864062014805 by omega)]
  refine Ev.bind (Right_ev (l ++ [x])) ?_
  by_cases h : rightS (l ++ [x]) = 0
  · obtain ⟨hl', h1', h2'⟩ := good_of h
    have hl : l.length ≤ 8 := by rw [List.length_append] at hl'; omega
    have h1 : Sm (·.f1) l := fun y hy => h1' y (List.mem_append_left _ hy)
    have h2 : Sm (·.f2) l := fun y hy => h2' y (List.mem_append_left _ hy)
    simp only [if_pos h]
    refine Ev.bind (Best_ev hl h1 h2 flow) ?_
    refine Ev.bind (Best_ev hl' h1' h2' flow) ?_
    by_cases hf : flow < 0
    · rw [best_neg l hf]
      simp only [if_neg (show ¬ ((2 : Int) = 0) by omega)]
      exact Ev.const _
    · rcases best_says l flow (by omega) with ⟨e, _⟩ | ⟨b, hb, e, hok, _⟩
      · rw [e]
        simp only [if_neg (show ¬ ((9 : Int) = 0) by omega)]
        exact Ev.const _
      · have hout : ¬ (((0 + l.length : Nat) : Int) ∈ ch l.length b) := fun hm => by have := ch_range hm; omega
        have e1 := ss_append (·.f1) _ x l 0 hout
        have e2 := ss_append (·.f2) _ x l 0 hout
        rcases best_says (l ++ [x]) flow (by omega) with ⟨_, hno⟩ | ⟨b', _, e', _, hmin'⟩
        · have := hno (ch l.length b)
          omega
        · rw [e, e']
          have := hmin' (ch l.length b) (by omega)
          rw [e2] at this
          simp only [if_true, decide_eq_true this]
          exact Ev.const _
  · simp only [if_neg h]
    exact Ev.const _
end Go.Proofs.Ytkehoglbpiibmaa.Pure
