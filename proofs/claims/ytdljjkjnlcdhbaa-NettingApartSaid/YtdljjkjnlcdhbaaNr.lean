/- Netting: Right of the program and of the reference, and the sum of positions. -/
import Derived.Test.YtdljjkjnlcdhbaaMx8
import Derived.Test.YtdljjkjnlcdhbaaGood
import Derived.Test.YtdljjkjnlcdhbaaLb
namespace Go.Proofs.Ytdljjkjnlcdhbaa.Nt
open Go.RowKit Go.Proofs.Ytdljjkjnlcdhbaa.M Go.Proofs.YtdljjkjnlcdhbaaW.PrintWords Go.Proofs.YtdljjkjnlcdhbaaW.PrintLast Go.Proofs.YtdljjkjnlcdhbaaW.PrintMore Go.Proofs.Ytdljjkjnlcdhbaa.Mk
set_option linter.unusedSimpArgs false
set_option linter.unusedVariables false

theorem w64 {n : Int} (h0 : -9223372036854775808 ≤ n) (h1 : n ≤ 9223372036854775807) : wrap64 n = n := by unfold wrap64; omega
theorem Ev.at1 {α : Type} {g : Nat → Option α} {r : α} (h : Ev (fun k => g (k + 1)) r) : Ev g r := Ev.step (fun _ => rfl) h
theorem Ev.const {α : Type} (r : α) : Ev (fun _ => some r) r := Ev.now r
theorem rd34 {l : List S34} {i : Nat} (h : i < l.length) : rd_T34 l (i : Int) = l[i] := by simp [rd_T34, h]
theorem rd32 {l : List S32} {i : Nat} (h : i < l.length) : rd_T32 l (i : Int) = l[i] := by simp [rd_T32, h]
theorem rdI {l : List Int} {i : Nat} (h : i < l.length) : rd l (i : Int) = l[i] := by simp [rd, h]
theorem cast1 (i : Nat) : ((i : Int) + 1) = ((i + 1 : Nat) : Int) := by omega
theorem S34.eta (x : S34) : (⟨x.f0, x.f1⟩ : S34) = x := rfl
theorem S32.eta (x : S32) : (⟨x.f0, x.f1, x.f2⟩ : S32) = x := rfl

def small (x : S34) : Prop := -137438953472 ≤ x.f1 ∧ x.f1 ≤ 137438953472
instance (x : S34) : Decidable (small x) := by unfold small; infer_instance
def bad (x : S34) : Prop := x.f0 < 1 ∨ 8 < x.f0 ∨ x.f1 < -137438953472 ∨ 137438953472 < x.f1
instance (x : S34) : Decidable (bad x) := by unfold bad; infer_instance
abbrev am (x : S34) : Int := x.f1
theorem sm_take {l : List S34} {i : Nat} (h : i < l.length) : sm am (l.take (i + 1)) = sm am (l.take i) + l[i].f1 := by
  rw [List.take_succ_eq_append_getElem h, sm_append]
  simp [sm]
theorem take_small {l : List S34} (hb : ∀ x ∈ l, small x) (hl : l.length ≤ 8) (i : Nat) : -1099511627776 ≤ sm am (l.take i) ∧ sm am (l.take i) ≤ 1099511627776 := by
  have := sm_bound (f := am) (B := 137438953472) (l := l.take i) (fun x hx => hb x (List.mem_of_mem_take hx))
  have h2 : (l.take i).length ≤ 8 := by rw [List.length_take]; omega
  omega
theorem total_go (l : List S34) (hb : ∀ x ∈ l, small x) (hl : l.length ≤ 8) (d : Nat) : ∀ i : Nat, l.length - i = d → i ≤ l.length →
    Ev (fun k => netting_total.l0 k (sm am (l.take i)) l (l.length : Int) (i : Int)) (sm am l) := by
  induction d with
  | zero =>
    intro i hd hi
    refine Ev.at1 ?_
    simp only [netting_total.l0, if_neg (show ¬ ((i : Int) < (l.length : Int)) by omega)]
    rw [List.take_of_length_le (by omega)]
    exact Ev.const _
  | succ d ih =>
    intro i hd hi
    have hlt : i < l.length := by omega
    refine Ev.at1 ?_
    have h1 := take_small hb hl i
    have h2 := hb l[i] (List.getElem_mem hlt)
    unfold small at h2
    simp only [netting_total.l0, if_pos (show (i : Int) < (l.length : Int) by omega), if_pos (show (0 : Int) ≤ (i : Int) by omega), rd34 hlt]
    rw [w64 (by omega) (by omega), w64 (by omega) (by omega), ← sm_take hlt, cast1]
    exact ih (i + 1) (by omega) (by omega)
theorem total_ev (l : List S34) (hb : ∀ x ∈ l, small x) (hl : l.length ≤ 8) : Ev (fun k => netting_total.f k l) (sm am l) := total_go l hb hl l.length 0 (by omega) (by omega)

/-! ### Right -/
def low (p : Option S34) (x : S34) : Bool := match p with | some y => decide (x.f0 ≤ y.f0) | none => false
theorem low_none (x : S34) : (low none x = true) = False := by simp [low]
theorem low_some (y x : S34) : (low (some y) x = true) = (x.f0 ≤ y.f0) := by simp [low]
def rgo : Option S34 → Int → List S34 → Int
  | _, s, [] => if s = 0 then 0 else 1
  | p, s, x :: r => if bad x then 2 else if low p x = true then 11 else rgo (some x) (s + x.f1) r
def rightS (l : List S34) : Int := if (l.length : Int) > 8 then 4 else rgo none 0 l
def prev (l : List S34) (i : Nat) : Option S34 := if i = 0 then none else l[i - 1]?
theorem operator_ev (n : Int) : netting_operator.f n = some (decide (1 ≤ n ∧ n ≤ 8)) := by
  unfold netting_operator.f
  by_cases h : n ≥ 1
  · simp [h]
    try omega
  · rw [if_neg h]
    simp
    omega
theorem Right_go (l : List S34) (hl : l.length ≤ 8) (d : Nat) : ∀ i : Nat, l.length - i = d → i ≤ l.length → (∀ x ∈ l.take i, ¬ bad x) →
    Ev (fun k => netting_Right.l0 k l l (l.length : Int) (i : Int)) (rgo (prev l i) (sm am (l.take i)) (l.drop i)) := by
  induction d with
  | zero =>
    intro i hd hi hb
    refine Ev.at1 ?_
    simp only [netting_Right.l0, if_neg (show ¬ ((i : Int) < (l.length : Int)) by omega)]
    rw [List.drop_of_length_le (by omega), List.take_of_length_le (by omega)]
    rw [List.take_of_length_le (by omega)] at hb
    refine Ev.bind (total_ev l (fun x hx => by have := hb x hx; unfold bad at this; unfold small; omega) hl) ?_
    unfold rgo
    by_cases h : sm am l = 0
    · simp only [h, if_true]; exact Ev.const _
    · simp only [h, if_false]; exact Ev.const _
  | succ d ih =>
    intro i hd hi hb
    have hlt : i < l.length := by omega
    refine Ev.at1 ?_
    simp only [netting_Right.l0, if_pos (show (i : Int) < (l.length : Int) by omega), if_pos (show (0 : Int) ≤ (i : Int) by omega), rd34 hlt, operator_ev, Option.bind_some]
    rw [List.drop_eq_getElem_cons hlt]
    have tail : ¬ bad l[i] → Ev (fun k => netting_Right.j1 k l (i : Int) l (l.length : Int) (i : Int) false l[i].f0 l[i].f1) (rgo (prev l i) (sm am (l.take i)) (l[i] :: l.drop (i + 1))) := by
      intro hbi
      refine Ev.at1 ?_
      simp only [netting_Right.j1, Bool.false_eq_true, if_false, rgo, if_neg hbi]
      have hb' : ∀ x ∈ l.take (i + 1), ¬ bad x := by
        intro x hx
        rw [List.take_succ_eq_append_getElem hlt] at hx
        rcases List.mem_append.1 hx with hx | hx
        · exact hb x hx
        · rw [List.mem_singleton.1 hx]; exact hbi
      have ih' := ih (i + 1) (by omega) (by omega) hb'
      rw [show prev l (i + 1) = some l[i] by simp [prev, hlt], sm_take hlt] at ih'
      rw [w64 (n := (i : Int) + 1) (by omega) (by omega), w64 (n := (i : Int) - 1) (by omega) (by omega), cast1]
      by_cases h0 : i = 0
      · subst h0
        simp only [prev, low_none, if_true, Int.natCast_zero, gt_iff_lt, Int.lt_irrefl, if_false]
        exact ih'
      · have hp : (i : Int) - 1 = ((i - 1 : Nat) : Int) := by omega
        rw [hp]
        simp only [if_pos (show (i : Int) > 0 by omega), if_pos (show (0 : Int) ≤ ((i - 1 : Nat) : Int) by omega), if_pos (show ((i - 1 : Nat) : Int) < (l.length : Int) by omega), rd34 (show i - 1 < l.length by omega)]
        rw [show prev l i = some l[i - 1] by simp [prev, h0, show i - 1 < l.length by omega]]
        simp only [low_some]
        by_cases hc : l[i].f0 ≤ l[i - 1].f0
        · simp only [hc, if_true]; exact Ev.const _
        · simp only [hc, if_false]; exact ih'
    have tailT : Ev (fun k => netting_Right.j1 k l (i : Int) l (l.length : Int) (i : Int) true l[i].f0 l[i].f1) 2 := by
      refine Ev.at1 ?_
      simp only [netting_Right.j1, if_true]
      exact Ev.const _
    by_cases ho : 1 ≤ l[i].f0 ∧ l[i].f0 ≤ 8
    · simp only [ho, and_self, decide_true, if_true]
      by_cases h1 : l[i].f1 < -137438953472
      · simp only [h1, if_true]
        have : bad l[i] := by unfold bad; omega
        rw [rgo, if_pos this]
        exact tailT
      · simp only [h1, if_false]
        by_cases h2 : l[i].f1 > 137438953472
        · have : bad l[i] := by unfold bad; omega
          simp only [h2, decide_true]
          rw [rgo, if_pos this]
          exact tailT
        · have : ¬ bad l[i] := by unfold bad; omega
          simp only [h2, decide_false]
          exact tail this
    · have : bad l[i] := by unfold bad; omega
      simp only [ho, decide_false, Bool.false_eq_true, if_false]
      rw [rgo, if_pos this]
      exact tailT
theorem Right_ev (l : List S34) : Ev (fun k => netting_Right.f k l) (rightS l) := by
  unfold netting_Right.f rightS
  by_cases h : (l.length : Int) > 8
  · simp only [if_pos h]
    exact Ev.const _
  · simp only [if_neg h]
    have := Right_go l (by omega) l.length 0 (by omega) (by omega) (by simp)
    simpa [prev, sm] using this
theorem RRight_go (l : List S34) (hl : l.length ≤ 8) (d : Nat) : ∀ i : Nat, l.length - i = d → i ≤ l.length → (∀ x ∈ l.take i, ¬ bad x) →
    Ev (fun k => skiarearef37_Right.l0 k l (sm am (l.take i)) (i : Int)) (rgo (prev l i) (sm am (l.take i)) (l.drop i)) := by
  induction d with
  | zero =>
    intro i hd hi hb
    refine Ev.at1 ?_
    simp only [skiarearef37_Right.l0, if_neg (show ¬ ((i : Int) < (l.length : Int)) by omega)]
    rw [List.drop_of_length_le (by omega)]
    unfold rgo
    by_cases h : sm am (l.take i) = 0
    · simp only [h, if_true]; exact Ev.const _
    · simp only [h, if_false]; exact Ev.const _
  | succ d ih =>
    intro i hd hi hb
    have hlt : i < l.length := by omega
    refine Ev.at1 ?_
    simp only [skiarearef37_Right.l0, if_pos (show (i : Int) < (l.length : Int) by omega), if_pos (show (0 : Int) ≤ (i : Int) by omega), rd34 hlt]
    rw [List.drop_eq_getElem_cons hlt]
    have tail : ¬ bad l[i] → Ev (fun k => skiarearef37_Right.j1 k l (sm am (l.take i)) (i : Int) false) (rgo (prev l i) (sm am (l.take i)) (l[i] :: l.drop (i + 1))) := by
      intro hbi
      have hb' : ∀ x ∈ l.take (i + 1), ¬ bad x := by
        intro x hx
        rw [List.take_succ_eq_append_getElem hlt] at hx
        rcases List.mem_append.1 hx with hx | hx
        · exact hb x hx
        · rw [List.mem_singleton.1 hx]; exact hbi
      have h1 := sm_bound (f := am) (B := 137438953472) (l := l.take i) (fun x hx => by have := hb x hx; unfold bad at this; show -137438953472 ≤ x.f1 ∧ x.f1 ≤ 137438953472; omega)
      have h2 : (l.take i).length ≤ 8 := by rw [List.length_take]; omega
      have h3 := hbi
      unfold bad at h3
      refine Ev.at1 ?_
      simp only [skiarearef37_Right.j1, Bool.false_eq_true, if_false, rgo, if_neg hbi, rd34 hlt]
      have ih' := ih (i + 1) (by omega) (by omega) hb'
      rw [show prev l (i + 1) = some l[i] by simp [prev, hlt], sm_take hlt] at ih'
      rw [w64 (n := (i : Int) + 1) (by omega) (by omega), w64 (n := (i : Int) - 1) (by omega) (by omega), w64 (n := sm am (l.take i) + l[i].f1) (by omega) (by omega), cast1]
      by_cases h0 : i = 0
      · subst h0
        simp only [prev, low_none, if_true, Int.natCast_zero, gt_iff_lt, Int.lt_irrefl, if_false, Int.le_refl, if_pos (show (0 : Int) < (l.length : Int) by omega)]
        exact ih'
      · have hp : (i : Int) - 1 = ((i - 1 : Nat) : Int) := by omega
        rw [hp]
        simp only [if_pos (show (i : Int) > 0 by omega), if_pos (show (0 : Int) ≤ (i : Int) by omega), if_pos (show (i : Int) < (l.length : Int) by omega), if_pos (show (0 : Int) ≤ ((i - 1 : Nat) : Int) by omega), if_pos (show ((i - 1 : Nat) : Int) < (l.length : Int) by omega), rd34 (show i - 1 < l.length by omega)]
        rw [show prev l i = some l[i - 1] by simp [prev, h0, show i - 1 < l.length by omega]]
        simp only [low_some]
        by_cases hc : l[i].f0 ≤ l[i - 1].f0
        · simp only [hc, if_true]; exact Ev.const _
        · simp only [hc, if_false]; exact ih'
    have tailT : bad l[i] → Ev (fun k => skiarearef37_Right.j1 k l (sm am (l.take i)) (i : Int) true) (rgo (prev l i) (sm am (l.take i)) (l[i] :: l.drop (i + 1))) := by
      intro hbi
      rw [rgo, if_pos hbi]
      refine Ev.at1 ?_
      simp only [skiarearef37_Right.j1, if_true]
      exact Ev.const _
    by_cases h1 : l[i].f0 < 1
    · simp only [h1, if_true]; exact tailT (by unfold bad; omega)
    · simp only [h1, if_false]
      by_cases h2 : l[i].f0 > 8
      · simp only [h2, if_true]; exact tailT (by unfold bad; omega)
      · simp only [h2, if_false]
        by_cases h3 : l[i].f1 < -137438953472
        · simp only [h3, if_true]; exact tailT (by unfold bad; omega)
        · simp only [h3, if_false]
          by_cases h4 : l[i].f1 > 137438953472
          · simp only [h4, decide_true]; exact tailT (by unfold bad; omega)
          · simp only [h4, decide_false]; exact tail (by unfold bad; omega)
theorem RRight_ev (l : List S34) : Ev (fun k => skiarearef37_Right.f k l) (rightS l) := by
  unfold skiarearef37_Right.f rightS
  by_cases h : (l.length : Int) > 8
  · simp only [if_pos h]
    exact Ev.const _
  · simp only [if_neg h]
    have := RRight_go l (by omega) l.length 0 (by omega) (by omega) (by simp)
    simpa [prev, sm] using this
/-- Positions as they should be. -/
structure Good (l : List S34) : Prop where
  len : l.length ≤ 8
  ok : ∀ x ∈ l, ¬ bad x
  ord : l.Pairwise (fun x y => x.f0 < y.f0)
  sum : sm am l = 0
theorem rgo_zero : ∀ {l : List S34} {p : Option S34} {s : Int}, rgo p s l = 0 → (∀ x ∈ l, ¬ bad x) ∧ (∀ y, p = some y → ∀ x ∈ l, y.f0 < x.f0) ∧ l.Pairwise (fun x y => x.f0 < y.f0) ∧ s + sm am l = 0 := by
  intro l
  induction l with
  | nil =>
    intro p s h
    unfold rgo at h
    have : s = 0 := by by_cases e : s = 0 <;> simp_all
    simp [sm, this]
  | cons x l ih =>
    intro p s h
    unfold rgo at h
    by_cases hb : bad x
    · simp [hb] at h
    rw [if_neg hb] at h
    by_cases hp : low p x = true
    · simp [hp] at h
    rw [if_neg hp] at h
    obtain ⟨h1, h2, h3, h4⟩ := ih h
    have h2 := h2 x rfl
    refine ⟨fun y hy => ?_, fun y hy z hz => ?_, List.pairwise_cons.2 ⟨h2, h3⟩, by simp only [sm]; show s + (x.f1 + _) = 0; omega⟩
    · rcases List.mem_cons.1 hy with rfl | hy
      · exact hb
      · exact h1 y hy
    · subst hy
      rw [low_some, Int.not_le] at hp
      rcases List.mem_cons.1 hz with rfl | hz
      · exact hp
      · have := h2 z hz; omega
theorem rightS_zero {l : List S34} (h : rightS l = 0) : Good l := by
  unfold rightS at h
  by_cases hl : (l.length : Int) > 8
  · simp [hl] at h
  · rw [if_neg hl] at h
    obtain ⟨h1, _, h3, h4⟩ := rgo_zero h
    exact ⟨by omega, h1, h3, by omega⟩
end Go.Proofs.Ytdljjkjnlcdhbaa.Nt
