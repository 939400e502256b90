/- PumpNeeded: without any one of the pumps that Best chose, the others do not deliver enough. -/
import Derived.Test.YtkehoglbpiibmaaMx7
import Derived.Test.YtkehoglbpiibmaaGood
import Derived.Test.YtkehoglbpiibmaaPb
namespace Go.Proofs.Ytkehoglbpiibmaa.Pure
open Go.RowKit Go.Proofs.Ytkehoglbpiibmaa.M Go.Proofs.YtkehoglbpiibmaaW.PrintWords Go.Proofs.YtkehoglbpiibmaaW.PrintLast Go.Proofs.YtkehoglbpiibmaaW.PrintMore Go.Proofs.Ytkehoglbpiibmaa.Gd Go.Proofs.Ytkehoglbpiibmaa.Pl
/-- A choice less one of its pumps. -/
theorem ss_without (of : S37 → Int) (c c' : List Int) (m : Nat) (hm : (m : Int) ∈ c) (hc : ∀ y : Int, y ∈ c' ↔ y ∈ c ∧ y ≠ (m : Int)) : ∀ (l : List S37) (i : Nat) (_ : i ≤ m) (h : m < i + l.length), ss of c i l = ss of c' i l + of (l[m - i]'(by omega))
  | [], i, h0, h => by simp at h; omega
  | x :: r, i, h0, h => by
    unfold ss
    by_cases e : m = i
    · subst e
      have e2 : ss of c (m + 1) r = ss of c' (m + 1) r := ss_congr of c c' r (m + 1) (fun j h1 _ => by rw [hc]; exact ⟨fun h => ⟨h, by omega⟩, fun h => h.1⟩)
      have e3 : ¬ ((m : Int) ∈ c') := fun h => ((hc _).1 h).2 rfl
      simp only [if_pos hm, if_neg e3, e2, Nat.sub_self, List.getElem_cons_zero]
      omega
    · have ih := ss_without of c c' m hm hc r (i + 1) (by omega) (by simp only [List.length_cons] at h; omega)
      have e1 : ((i : Int) ∈ c) ↔ ((i : Int) ∈ c') := by rw [hc]; exact ⟨fun h => ⟨h, by omega⟩, fun h => h.1⟩
      have e2 : (x :: r)[m - i]'(by omega) = r[m - (i + 1)]'(by simp only [List.length_cons] at h; omega) := by
        have : m - i = (m - (i + 1)) + 1 := by omega
        simp only [this, List.getElem_cons_succ]
      rw [ih, e2]
      simp only [e1]
      omega
theorem mem_less (c : List Int) (hs : c.Pairwise (· < ·)) (j : Nat) (hj : j < c.length) (y : Int) : y ∈ c.take j ++ c.drop (j + 1) ↔ y ∈ c ∧ y ≠ c[j] := by
  have hsplit : c = c.take j ++ c[j] :: c.drop (j + 1) := by rw [← List.drop_eq_getElem_cons hj, List.take_append_drop]
  have hp := hs
  rw [hsplit, List.pairwise_append] at hp
  obtain ⟨_, p2, p3⟩ := hp
  have p4 := (List.pairwise_cons.1 p2).1
  constructor
  · intro h
    rcases List.mem_append.1 h with h | h
    · exact ⟨List.mem_of_mem_take h, by have := p3 y h c[j] List.mem_cons_self; omega⟩
    · exact ⟨List.mem_of_mem_drop h, by have := p4 y h; omega⟩
  · rintro ⟨h, hne⟩
    rw [hsplit] at h
    rcases List.mem_append.1 h with h | h
    · exact List.mem_append.2 (.inl h)
    · rcases List.mem_cons.1 h with h | h
      · exact absurd h hne
      · exact List.mem_append.2 (.inr h)
theorem need_loop (l : List S37) (hl : l.length ≤ 8) (h1 : Sm (·.f1) l) (flow : Int) (x : List Int) (hx : x.length ≤ 8) (hno : ∀ (j : Nat) (_ : j < x.length), ss (·.f1) (x.take j ++ x.drop (j + 1)) 0 l < flow) (d : Nat) : ∀ j : Nat, x.length - j = d → j ≤ x.length →
    Ev (fun k => skiarealaw41_PumpNeeded.l0 k l flow x (j : Int)) true := by
  induction d with
  | zero =>
    intro j hd hj
    refine Ev.at1 ?_
    simp only [skiarealaw41_PumpNeeded.l0, if_neg (show ¬ ((j : Int) < (x.length : Int)) by omega)]
    exact Ev.const _
  | succ d ih =>
    intro j hd hj
    have hlt : j < x.length := by omega
    have ew : wrap64 ((j : Int) + 1) = ((j + 1 : Nat) : Int) := by rw [w64 (by omega) (by omega)]; rfl
    have hn := ih (j + 1) (by omega) (by omega)
    refine Ev.at1 ?_
    simp only [skiarealaw41_PumpNeeded.l0, if_pos (show (j : Int) < (x.length : Int) by omega), if_pos (show (0 : Int) ≤ (j : Int) by omega), if_pos (show (j : Int) ≤ (x.length : Int) by omega), ew, if_pos (show (0 : Int) ≤ ((j + 1 : Nat) : Int) by omega), if_pos (show ((j + 1 : Nat) : Int) ≤ (x.length : Int) by omega), Option.bind_some, Int.toNat_natCast, List.nil_append, List.length_nil]
    have q1 : 0 + (x.take j).length < 17592186044416 := by rw [List.length_take]; omega
    have q2 : (x.take j).length + (x.drop (j + 1)).length < 17592186044416 := by rw [List.length_take, List.length_drop]; omega
    have q3 : (x.take j ++ x.drop (j + 1)).length < 4611686018427387904 := by rw [List.length_append]; omega
    simp only [if_pos q1, if_pos q2]
    refine Ev.bind (Flow_ev q3 (by omega) h1) ?_
    have := hno j hlt
    simp only [if_neg (show ¬ ss (fun x => x.f1) (x.take j ++ x.drop (j + 1)) 0 l ≥ flow by omega)]
    exact hn
theorem PumpNeeded : ∀ (l0 : List (S37)) (a1 : Int), l0.length * 24 ≤ 140737488351232 → (l0.length ≤ maxLen ∧ ∀ y ∈ l0, good37 y) → (Lit.int .i64 a1).wf = true → ∃ k, skiarealaw41_PumpNeeded.f k l0 a1 = some true := by
  intro l flow _ _ _
  refine Ev.rounds (g := fun k => skiarealaw41_PumpNeeded.f k l flow) ?_
  unfold skiarealaw41_PumpNeeded.f
  refine Ev.bind alive_ev ?_
  simp only [if_true]
  refine Ev.bind (Right_ev l) ?_
  by_cases h : rightS l = 0
  · obtain ⟨hl, h1, h2⟩ := good_of h
    simp only [if_pos h]
    refine Ev.bind (Best_ev hl h1 h2 flow) ?_
    by_cases hf : flow < 0
    · rw [best_neg l hf]
      simp only [if_neg (show ¬ ((2 : Int) = 0) by omega), List.length_nil, Int.natCast_zero, beq_self_eq_true]
      exact Ev.const _
    · rcases best_says l flow (by omega) with ⟨e, _⟩ | ⟨b, hb, e, hok, hmin⟩
      · rw [e]
        simp only [if_neg (show ¬ ((9 : Int) = 0) by omega), List.length_nil, Int.natCast_zero, beq_self_eq_true]
        exact Ev.const _
      · rw [e]
        simp only [if_true]
        have hcl := ch_length l.length b
        refine need_loop l hl h1 flow _ (by omega) (fun j hj => ?_) _ 0 rfl (by omega)
        have hr := ch_range (List.getElem_mem hj)
        obtain ⟨m, hm⟩ := Int.eq_ofNat_of_zero_le hr.1
        have hmem := mem_less _ (ch_sorted l.length b) j hj
        rw [hm] at hmem
        have hmc : (m : Int) ∈ ch l.length b := by rw [← hm]; exact List.getElem_mem hj
        have hml : m < l.length := by omega
        have hw := ss_without (·.f2) _ _ m hmc hmem l 0 (by omega) (by omega)
        have hpos : 1 ≤ (l[m - 0]'(by omega)).f2 := (h2 _ (List.getElem_mem _)).1
        refine Int.not_le.1 (fun hge => ?_)
        have := hmin _ hge
        have hw2 : ss (·.f2) (ch l.length b) 0 l = ss (·.f2) ((ch l.length b).take j ++ (ch l.length b).drop (j + 1)) 0 l + (l[m - 0]'(by omega)).f2 := hw
        omega
  · simp only [if_neg h]
    exact Ev.const _
end Go.Proofs.Ytkehoglbpiibmaa.Pure
