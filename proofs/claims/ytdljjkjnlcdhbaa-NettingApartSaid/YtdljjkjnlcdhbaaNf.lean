/- Netting: the searches for a position: the first that is negative, positive, 0. -/
import Derived.Test.YtdljjkjnlcdhbaaMx3
import Derived.Test.YtdljjkjnlcdhbaaNr
namespace Go.Proofs.Ytdljjkjnlcdhbaa.Nt
open Go.RowKit Go.Proofs.Ytdljjkjnlcdhbaa.M Go.Proofs.YtdljjkjnlcdhbaaW.PrintWords Go.Proofs.YtdljjkjnlcdhbaaW.PrintLast Go.Proofs.YtdljjkjnlcdhbaaW.PrintMore Go.Proofs.Ytdljjkjnlcdhbaa.Mk
set_option linter.unusedSimpArgs false
set_option linter.unusedVariables false
theorem netting_settle_1_ev (x : S34) : netting_settle_1.f x.f0 x.f1 = some (decide (x.f1 < 0)) := by
  unfold netting_settle_1.f
  first | rfl | (congr 1; rw [Bool.eq_iff_iff]; simp)
theorem first_neg_go (l : List S34) (hl : l.length ≤ 8) (d : Nat) : ∀ i : Nat, l.length - i = d → i ≤ l.length → (∀ x ∈ l.take i, ¬ (x.f1 < 0)) →
    ∃ r, ((r = -1 ∧ ∀ x ∈ l, ¬ (x.f1 < 0)) ∨ ∃ (i : Nat) (h : i < l.length), r = (i : Int) ∧ l[i].f1 < 0 ∧ ∀ x ∈ l.take i, ¬ (x.f1 < 0)) ∧ Ev (fun k => netting_first_neg.l0 k l (l.length : Int) (i : Int)) r := by
  induction d with
  | zero =>
    intro i hd hi h
    refine ⟨-1, .inl ⟨rfl, by rwa [List.take_of_length_le (by omega)] at h⟩, Ev.at1 ?_⟩
    simp only [netting_first_neg.l0, if_neg (show ¬ ((i : Int) < (l.length : Int)) by omega)]
    exact Ev.const _
  | succ d ih =>
    intro i hd hi h
    have hlt : i < l.length := by omega
    by_cases hp : l[i].f1 < 0
    · refine ⟨(i : Int), .inr ⟨i, hlt, rfl, hp, h⟩, Ev.at1 ?_⟩
      simp only [netting_first_neg.l0, if_pos (show (i : Int) < (l.length : Int) by omega), if_pos (show (0 : Int) ≤ (i : Int) by omega), rd34 hlt, netting_settle_1_ev, Option.bind_some, hp, decide_true, if_true]
      exact Ev.const _
    · obtain ⟨r, hr, he⟩ := ih (i + 1) (by omega) (by omega) (by
        intro x hx
        rw [List.take_succ_eq_append_getElem hlt] at hx
        rcases List.mem_append.1 hx with hx | hx
        · exact h x hx
        · rw [List.mem_singleton.1 hx]; exact hp)
      refine ⟨r, hr, Ev.at1 ?_⟩
      simp only [netting_first_neg.l0, if_pos (show (i : Int) < (l.length : Int) by omega), if_pos (show (0 : Int) ≤ (i : Int) by omega), rd34 hlt, netting_settle_1_ev, Option.bind_some, hp, decide_false, Bool.false_eq_true, if_false]
      rw [w64 (n := (i : Int) + 1) (by omega) (by omega), cast1]
      exact he
theorem first_neg_ev (l : List S34) (hl : l.length ≤ 8) :
    ∃ r, ((r = -1 ∧ ∀ x ∈ l, ¬ (x.f1 < 0)) ∨ ∃ (i : Nat) (h : i < l.length), r = (i : Int) ∧ l[i].f1 < 0 ∧ ∀ x ∈ l.take i, ¬ (x.f1 < 0)) ∧ Ev (fun k => netting_first_neg.f k l) r := by
  obtain ⟨r, hr, he⟩ := first_neg_go l hl l.length 0 (by omega) (by omega) (by simp)
  exact ⟨r, hr, he⟩
theorem netting_settle_2_ev (x : S34) : netting_settle_2.f x.f0 x.f1 = some (decide (x.f1 > 0)) := by
  unfold netting_settle_2.f
  first | rfl | (congr 1; rw [Bool.eq_iff_iff]; simp)
theorem first_pos_go (l : List S34) (hl : l.length ≤ 8) (d : Nat) : ∀ i : Nat, l.length - i = d → i ≤ l.length → (∀ x ∈ l.take i, ¬ (x.f1 > 0)) →
    ∃ r, ((r = -1 ∧ ∀ x ∈ l, ¬ (x.f1 > 0)) ∨ ∃ (i : Nat) (h : i < l.length), r = (i : Int) ∧ l[i].f1 > 0 ∧ ∀ x ∈ l.take i, ¬ (x.f1 > 0)) ∧ Ev (fun k => netting_first_pos.l0 k l (l.length : Int) (i : Int)) r := by
  induction d with
  | zero =>
    intro i hd hi h
    refine ⟨-1, .inl ⟨rfl, by rwa [List.take_of_length_le (by omega)] at h⟩, Ev.at1 ?_⟩
    simp only [netting_first_pos.l0, if_neg (show ¬ ((i : Int) < (l.length : Int)) by omega)]
    exact Ev.const _
  | succ d ih =>
    intro i hd hi h
    have hlt : i < l.length := by omega
    by_cases hp : l[i].f1 > 0
    · refine ⟨(i : Int), .inr ⟨i, hlt, rfl, hp, h⟩, Ev.at1 ?_⟩
      simp only [netting_first_pos.l0, if_pos (show (i : Int) < (l.length : Int) by omega), if_pos (show (0 : Int) ≤ (i : Int) by omega), rd34 hlt, netting_settle_2_ev, Option.bind_some, hp, decide_true, if_true]
      exact Ev.const _
    · obtain ⟨r, hr, he⟩ := ih (i + 1) (by omega) (by omega) (by
        intro x hx
        rw [List.take_succ_eq_append_getElem hlt] at hx
        rcases List.mem_append.1 hx with hx | hx
        · exact h x hx
        · rw [List.mem_singleton.1 hx]; exact hp)
      refine ⟨r, hr, Ev.at1 ?_⟩
      simp only [netting_first_pos.l0, if_pos (show (i : Int) < (l.length : Int) by omega), if_pos (show (0 : Int) ≤ (i : Int) by omega), rd34 hlt, netting_settle_2_ev, Option.bind_some, hp, decide_false, Bool.false_eq_true, if_false]
      rw [w64 (n := (i : Int) + 1) (by omega) (by omega), cast1]
      exact he
theorem first_pos_ev (l : List S34) (hl : l.length ≤ 8) :
    ∃ r, ((r = -1 ∧ ∀ x ∈ l, ¬ (x.f1 > 0)) ∨ ∃ (i : Nat) (h : i < l.length), r = (i : Int) ∧ l[i].f1 > 0 ∧ ∀ x ∈ l.take i, ¬ (x.f1 > 0)) ∧ Ev (fun k => netting_first_pos.f k l) r := by
  obtain ⟨r, hr, he⟩ := first_pos_go l hl l.length 0 (by omega) (by omega) (by simp)
  exact ⟨r, hr, he⟩
theorem netting_Net_1_ev (x : S34) : netting_Net_1.f x.f0 x.f1 = some (decide (x.f1 = 0)) := by
  unfold netting_Net_1.f
  first | rfl | (congr 1; rw [Bool.eq_iff_iff]; simp)
theorem first_zero_go (l : List S34) (hl : l.length ≤ 8) (d : Nat) : ∀ i : Nat, l.length - i = d → i ≤ l.length → (∀ x ∈ l.take i, ¬ (x.f1 = 0)) →
    ∃ r, ((r = -1 ∧ ∀ x ∈ l, ¬ (x.f1 = 0)) ∨ ∃ (i : Nat) (h : i < l.length), r = (i : Int) ∧ l[i].f1 = 0 ∧ ∀ x ∈ l.take i, ¬ (x.f1 = 0)) ∧ Ev (fun k => netting_first_zero.l0 k l (l.length : Int) (i : Int)) r := by
  induction d with
  | zero =>
    intro i hd hi h
    refine ⟨-1, .inl ⟨rfl, by rwa [List.take_of_length_le (by omega)] at h⟩, Ev.at1 ?_⟩
    simp only [netting_first_zero.l0, if_neg (show ¬ ((i : Int) < (l.length : Int)) by omega)]
    exact Ev.const _
  | succ d ih =>
    intro i hd hi h
    have hlt : i < l.length := by omega
    by_cases hp : l[i].f1 = 0
    · refine ⟨(i : Int), .inr ⟨i, hlt, rfl, hp, h⟩, Ev.at1 ?_⟩
      simp only [netting_first_zero.l0, if_pos (show (i : Int) < (l.length : Int) by omega), if_pos (show (0 : Int) ≤ (i : Int) by omega), rd34 hlt, netting_Net_1_ev, Option.bind_some, hp, decide_true, if_true]
      exact Ev.const _
    · obtain ⟨r, hr, he⟩ := ih (i + 1) (by omega) (by omega) (by
        intro x hx
        rw [List.take_succ_eq_append_getElem hlt] at hx
        rcases List.mem_append.1 hx with hx | hx
        · exact h x hx
        · rw [List.mem_singleton.1 hx]; exact hp)
      refine ⟨r, hr, Ev.at1 ?_⟩
      simp only [netting_first_zero.l0, if_pos (show (i : Int) < (l.length : Int) by omega), if_pos (show (0 : Int) ≤ (i : Int) by omega), rd34 hlt, netting_Net_1_ev, Option.bind_some, hp, decide_false, Bool.false_eq_true, if_false]
      rw [w64 (n := (i : Int) + 1) (by omega) (by omega), cast1]
      exact he
theorem first_zero_ev (l : List S34) (hl : l.length ≤ 8) :
    ∃ r, ((r = -1 ∧ ∀ x ∈ l, ¬ (x.f1 = 0)) ∨ ∃ (i : Nat) (h : i < l.length), r = (i : Int) ∧ l[i].f1 = 0 ∧ ∀ x ∈ l.take i, ¬ (x.f1 = 0)) ∧ Ev (fun k => netting_first_zero.f k l) r := by
  obtain ⟨r, hr, he⟩ := first_zero_go l hl l.length 0 (by omega) (by omega) (by simp)
  exact ⟨r, hr, he⟩
end Go.Proofs.Ytdljjkjnlcdhbaa.Nt
