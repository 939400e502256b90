/- Pumps: what the loops of the program and of the reference come to, as plain sums and choices. -/
import Derived.Test.YtkehoglbpiibmaaMx5
import Derived.Test.YtkehoglbpiibmaaGood
namespace Go.Proofs.Ytkehoglbpiibmaa.Pl
open Go.RowKit Go.Proofs.Ytkehoglbpiibmaa.M Go.Proofs.YtkehoglbpiibmaaW.PrintWords Go.Proofs.YtkehoglbpiibmaaW.PrintLast Go.Proofs.YtkehoglbpiibmaaW.PrintMore

theorem w64 {n : Int} (h0 : -9223372036854775808 ≤ n) (h1 : n ≤ 9223372036854775807) : wrap64 n = n := by unfold wrap64; omega
theorem Ev.at1 {α : Type} {g : Nat → Option α} {r : α} (h : Ev (fun k => g (k + 1)) r) : Ev g r := Ev.step (fun _ => rfl) h
theorem Ev.const {α : Type} (r : α) : Ev (fun _ => some r) r := Ev.now r

/-- Is a number in a list, from place j on? -/
theorem index_ev (c : List Int) (x : Int) (hc : c.length < 4611686018427387904) (d : Nat) : ∀ j : Nat, c.length - j = d → j ≤ c.length →
    ∃ r, Ev (fun k => slices_Index_int_int.l0 k c x (c.length : Int) (j : Int)) r ∧ (0 ≤ r ↔ x ∈ c.drop j) := by
  induction d with
  | zero =>
    intro j hd hj
    refine ⟨-1, Ev.at1 ?_, ?_⟩
    · simp only [slices_Index_int_int.l0, if_neg (show ¬ ((j : Int) < (c.length : Int)) by omega)]
      exact Ev.const _
    · rw [List.drop_of_length_le (by omega)]; simp
  | succ d ih =>
    intro j hd hj
    have hlt : j < c.length := by omega
    have hrd : rd c (j : Int) = c[j] := by simp [rd, hlt]
    have hdr : c.drop j = c[j] :: c.drop (j + 1) := List.drop_eq_getElem_cons hlt
    by_cases e : x = c[j]
    · refine ⟨j, Ev.at1 ?_, ?_⟩
      · simp only [slices_Index_int_int.l0, if_pos (show (j : Int) < (c.length : Int) by omega), if_pos (show (0 : Int) ≤ (j : Int) by omega), hrd, if_pos e]
        exact Ev.const _
      · rw [hdr, e, List.mem_cons]
        exact ⟨fun _ => .inl rfl, fun _ => by omega⟩
    · obtain ⟨r, hr, hi⟩ := ih (j + 1) (by omega) (by omega)
      refine ⟨r, Ev.at1 ?_, ?_⟩
      · simp only [slices_Index_int_int.l0, if_pos (show (j : Int) < (c.length : Int) by omega), if_pos (show (0 : Int) ≤ (j : Int) by omega), hrd, if_neg e]
        rw [w64 (by omega) (by omega)]
        exact hr
      · rw [hi, hdr, List.mem_cons]
        exact ⟨fun h => .inr h, fun h => h.resolve_left e⟩
theorem contains_ev (c : List Int) (x : Int) (hc : c.length < 4611686018427387904) : Ev (fun k => slices_Contains_int_int.f k c x) (decide (x ∈ c)) := by
  obtain ⟨r, hr, hi⟩ := index_ev c x hc c.length 0 (by omega) (by omega)
  unfold slices_Contains_int_int.f slices_Index_int_int.f
  refine Ev.bind (a := r) hr ?_
  have : decide (r ≥ 0) = decide (x ∈ c) := by
    rw [decide_eq_decide]
    simpa using hi
  rw [this]
  exact Ev.const _
theorem has_ev (c : List Int) (x : Int) (hc : c.length < 4611686018427387904) (d : Nat) : ∀ j : Nat, c.length - j = d → j ≤ c.length →
    Ev (fun k => skiarearef41_has.l0 k c x (j : Int)) (decide (x ∈ c.drop j)) := by
  induction d with
  | zero =>
    intro j hd hj
    refine Ev.at1 ?_
    simp only [skiarearef41_has.l0, if_neg (show ¬ ((j : Int) < (c.length : Int)) by omega)]
    rw [List.drop_of_length_le (by omega)]
    simpa using Ev.const false
  | succ d ih =>
    intro j hd hj
    have hlt : j < c.length := by omega
    have hrd : rd c (j : Int) = c[j] := by simp [rd, hlt]
    have hdr : c.drop j = c[j] :: c.drop (j + 1) := List.drop_eq_getElem_cons hlt
    refine Ev.at1 ?_
    by_cases e : c[j] = x
    · simp only [skiarearef41_has.l0, if_pos (show (j : Int) < (c.length : Int) by omega), if_pos (show (0 : Int) ≤ (j : Int) by omega), hrd, if_pos e]
      have : decide (x ∈ c.drop j) = true := decide_eq_true (by rw [hdr, List.mem_cons]; exact .inl e.symm)
      rw [this]
      exact Ev.const _
    · simp only [skiarearef41_has.l0, if_pos (show (j : Int) < (c.length : Int) by omega), if_pos (show (0 : Int) ≤ (j : Int) by omega), hrd, if_neg e]
      rw [w64 (by omega) (by omega)]
      have : decide (x ∈ c.drop j) = decide (x ∈ c.drop (j + 1)) := by
        rw [decide_eq_decide, hdr, List.mem_cons]
        exact ⟨fun h => h.resolve_left (fun h' => e h'.symm), fun h => .inr h⟩
      rw [this]
      exact ih (j + 1) (by omega) (by omega)

/-- The sum of a property of the pumps from number i on whose numbers are in c. -/
def ss (of : S37 → Int) (c : List Int) : Nat → List S37 → Int
  | _, [] => 0
  | i, x :: r => (if (i : Int) ∈ c then of x else 0) + ss of c (i + 1) r
/-- The property is small. -/
def Sm (of : S37 → Int) (l : List S37) : Prop := ∀ x ∈ l, 1 ≤ of x ∧ of x ≤ 100000000
theorem rd_at {l : List S37} {i : Nat} (h : i < l.length) : rd_T37 l (i : Int) = l[i] := by simp [rd_T37, h]
theorem ss_nonneg {of : S37 → Int} {c : List Int} : ∀ {l : List S37} {i : Nat}, Sm of l → 0 ≤ ss of c i l
  | [], _, _ => by simp [ss]
  | x :: r, i, h => by
    have h1 := h x (by simp)
    have h2 := ss_nonneg (of := of) (c := c) (l := r) (i := i + 1) (fun y hy => h y (by simp [hy]))
    unfold ss
    split <;> omega
theorem pflow_ev (l : List S37) (c : List Int) (hc : c.length < 4611686018427387904) (hl : l.length ≤ 1000) (hs : Sm (·.f1) l) (d : Nat) : ∀ (i : Nat) (acc : Int), l.length - i = d → i ≤ l.length → 0 ≤ acc → acc ≤ 100000000 * i →
    Ev (fun k => pump_sum_flow.l0 k c acc l (l.length : Int) (i : Int)) (acc + ss (·.f1) c i (l.drop i)) := by
  induction d with
  | zero =>
    intro i acc hd hi h0 h1
    refine Ev.at1 ?_
    simp only [pump_sum_flow.l0, if_neg (show ¬ ((i : Int) < (l.length : Int)) by omega)]
    rw [List.drop_of_length_le (by omega)]
    simpa [ss] using Ev.const acc
  | succ d ih =>
    intro i acc hd hi h0 h1
    have hlt : i < l.length := by omega
    have hx : 1 ≤ l[i].f1 ∧ l[i].f1 ≤ 100000000 := hs l[i] (List.getElem_mem hlt)
    refine Ev.at1 ?_
    simp only [pump_sum_flow.l0, if_pos (show (i : Int) < (l.length : Int) by omega), if_pos (show (0 : Int) ≤ (i : Int) by omega), rd_at hlt, pump_Flow_1.f, Option.bind_some]
    refine Ev.bind (a := decide ((i : Int) ∈ c)) (contains_ev c i hc) ?_
    rw [List.drop_eq_getElem_cons hlt, ss, w64 (n := (i : Int) + 1) (by omega) (by omega)]
    by_cases e : (i : Int) ∈ c
    · simp only [e, decide_true, if_true]
      rw [w64 (by omega) (by omega), ← Int.add_assoc]
      exact ih (i + 1) _ (by omega) (by omega) (by omega) (by push_cast; omega)
    · simp only [e, decide_false, if_false, Bool.false_eq_true]
      rw [Int.zero_add]
      exact ih (i + 1) _ (by omega) (by omega) (by omega) (by push_cast; omega)
theorem ppow_ev (l : List S37) (c : List Int) (hc : c.length < 4611686018427387904) (hl : l.length ≤ 1000) (hs : Sm (·.f2) l) (d : Nat) : ∀ (i : Nat) (acc : Int), l.length - i = d → i ≤ l.length → 0 ≤ acc → acc ≤ 100000000 * i →
    Ev (fun k => pump_sum_power.l0 k c acc l (l.length : Int) (i : Int)) (acc + ss (·.f2) c i (l.drop i)) := by
  induction d with
  | zero =>
    intro i acc hd hi h0 h1
    refine Ev.at1 ?_
    simp only [pump_sum_power.l0, if_neg (show ¬ ((i : Int) < (l.length : Int)) by omega)]
    rw [List.drop_of_length_le (by omega)]
    simpa [ss] using Ev.const acc
  | succ d ih =>
    intro i acc hd hi h0 h1
    have hlt : i < l.length := by omega
    have hx : 1 ≤ l[i].f2 ∧ l[i].f2 ≤ 100000000 := hs l[i] (List.getElem_mem hlt)
    refine Ev.at1 ?_
    simp only [pump_sum_power.l0, if_pos (show (i : Int) < (l.length : Int) by omega), if_pos (show (0 : Int) ≤ (i : Int) by omega), rd_at hlt, pump_Power_1.f, Option.bind_some]
    refine Ev.bind (a := decide ((i : Int) ∈ c)) (contains_ev c i hc) ?_
    rw [List.drop_eq_getElem_cons hlt, ss, w64 (n := (i : Int) + 1) (by omega) (by omega)]
    by_cases e : (i : Int) ∈ c
    · simp only [e, decide_true, if_true]
      rw [w64 (by omega) (by omega), ← Int.add_assoc]
      exact ih (i + 1) _ (by omega) (by omega) (by omega) (by push_cast; omega)
    · simp only [e, decide_false, if_false, Bool.false_eq_true]
      rw [Int.zero_add]
      exact ih (i + 1) _ (by omega) (by omega) (by omega) (by push_cast; omega)
theorem rflow_ev (l : List S37) (c : List Int) (hc : c.length < 4611686018427387904) (hl : l.length ≤ 1000) (hs : Sm (·.f1) l) (d : Nat) : ∀ (i : Nat) (acc : Int), l.length - i = d → i ≤ l.length → 0 ≤ acc → acc ≤ 100000000 * i →
    Ev (fun k => skiarearef41_Flow.l0 k l c acc (i : Int)) (acc + ss (·.f1) c i (l.drop i)) := by
  induction d with
  | zero =>
    intro i acc hd hi h0 h1
    refine Ev.at1 ?_
    simp only [skiarearef41_Flow.l0, if_neg (show ¬ ((i : Int) < (l.length : Int)) by omega)]
    rw [List.drop_of_length_le (by omega)]
    simpa [ss] using Ev.const acc
  | succ d ih =>
    intro i acc hd hi h0 h1
    have hlt : i < l.length := by omega
    have hx : 1 ≤ l[i].f1 ∧ l[i].f1 ≤ 100000000 := hs l[i] (List.getElem_mem hlt)
    refine Ev.at1 ?_
    simp only [skiarearef41_Flow.l0, if_pos (show (i : Int) < (l.length : Int) by omega), if_pos (show (0 : Int) ≤ (i : Int) by omega), rd_at hlt]
    refine Ev.bind (a := decide ((i : Int) ∈ c)) (by have h := has_ev c i hc c.length 0 (by omega) (by omega); simpa [skiarearef41_has.f] using h) ?_
    rw [List.drop_eq_getElem_cons hlt, ss, w64 (n := (i : Int) + 1) (by omega) (by omega)]
    by_cases e : (i : Int) ∈ c
    · simp only [e, decide_true, if_true]
      rw [w64 (by omega) (by omega), ← Int.add_assoc]
      exact ih (i + 1) _ (by omega) (by omega) (by omega) (by push_cast; omega)
    · simp only [e, decide_false, if_false, Bool.false_eq_true]
      rw [Int.zero_add]
      exact ih (i + 1) _ (by omega) (by omega) (by omega) (by push_cast; omega)
theorem rpow_ev (l : List S37) (c : List Int) (hc : c.length < 4611686018427387904) (hl : l.length ≤ 1000) (hs : Sm (·.f2) l) (d : Nat) : ∀ (i : Nat) (acc : Int), l.length - i = d → i ≤ l.length → 0 ≤ acc → acc ≤ 100000000 * i →
    Ev (fun k => skiarearef41_Power.l0 k l c acc (i : Int)) (acc + ss (·.f2) c i (l.drop i)) := by
  induction d with
  | zero =>
    intro i acc hd hi h0 h1
    refine Ev.at1 ?_
    simp only [skiarearef41_Power.l0, if_neg (show ¬ ((i : Int) < (l.length : Int)) by omega)]
    rw [List.drop_of_length_le (by omega)]
    simpa [ss] using Ev.const acc
  | succ d ih =>
    intro i acc hd hi h0 h1
    have hlt : i < l.length := by omega
    have hx : 1 ≤ l[i].f2 ∧ l[i].f2 ≤ 100000000 := hs l[i] (List.getElem_mem hlt)
    refine Ev.at1 ?_
    simp only [skiarearef41_Power.l0, if_pos (show (i : Int) < (l.length : Int) by omega), if_pos (show (0 : Int) ≤ (i : Int) by omega), rd_at hlt]
    refine Ev.bind (a := decide ((i : Int) ∈ c)) (by have h := has_ev c i hc c.length 0 (by omega) (by omega); simpa [skiarearef41_has.f] using h) ?_
    rw [List.drop_eq_getElem_cons hlt, ss, w64 (n := (i : Int) + 1) (by omega) (by omega)]
    by_cases e : (i : Int) ∈ c
    · simp only [e, decide_true, if_true]
      rw [w64 (by omega) (by omega), ← Int.add_assoc]
      exact ih (i + 1) _ (by omega) (by omega) (by omega) (by push_cast; omega)
    · simp only [e, decide_false, if_false, Bool.false_eq_true]
      rw [Int.zero_add]
      exact ih (i + 1) _ (by omega) (by omega) (by omega) (by push_cast; omega)

section
variable {l : List S37} {c : List Int} (hc : c.length < 4611686018427387904) (hl : l.length ≤ 1000)
include hc hl
theorem Flow_ev (hs : Sm (·.f1) l) : Ev (fun k => pump_Flow.f k l c) (ss (·.f1) c 0 l) := by
  unfold pump_Flow.f pump_sum_flow.f
  refine Ev.bind (a := ss (·.f1) c 0 l) ?_ (Ev.const _)
  have h := pflow_ev l c hc hl hs l.length 0 0 (by omega) (by omega) (by omega) (by omega)
  simpa using h
theorem Power_ev (hs : Sm (·.f2) l) : Ev (fun k => pump_Power.f k l c) (ss (·.f2) c 0 l) := by
  unfold pump_Power.f pump_sum_power.f
  refine Ev.bind (a := ss (·.f2) c 0 l) ?_ (Ev.const _)
  have h := ppow_ev l c hc hl hs l.length 0 0 (by omega) (by omega) (by omega) (by omega)
  simpa using h
theorem rFlow_ev (hs : Sm (·.f1) l) : Ev (fun k => skiarearef41_Flow.f k l c) (ss (·.f1) c 0 l) := by
  have h := rflow_ev l c hc hl hs l.length 0 0 (by omega) (by omega) (by omega) (by omega)
  simpa [skiarearef41_Flow.f] using h
theorem rPower_ev (hs : Sm (·.f2) l) : Ev (fun k => skiarearef41_Power.f k l c) (ss (·.f2) c 0 l) := by
  have h := rpow_ev l c hc hl hs l.length 0 0 (by omega) (by omega) (by omega) (by omega)
  simpa [skiarearef41_Power.f] using h
end

/-! ### Right: the first error -/
/-- Is a field of a pump out of its range? -/
def bad (x : S37) : Bool := decide (x.f0 < 1) || decide (x.f0 > 9999) || decide (x.f1 < 1) || decide (x.f1 > 1000000) || decide (x.f2 < 1) || decide (x.f2 > 100000000)
/-- The first error of pumps, behind pumps with the IDs in seen. -/
def go : List Int → List S37 → Int
  | _, [] => 0
  | seen, x :: r => if bad x = true then 2 else if x.f0 ∈ seen then 7 else go (x.f0 :: seen) r
def rightS (l : List S37) : Int := if l.length > 8 then 4 else go [] l
theorem bad_false {x : S37} (h : bad x = false) : 1 ≤ x.f0 ∧ x.f0 ≤ 9999 ∧ 1 ≤ x.f1 ∧ x.f1 ≤ 1000000 ∧ 1 ≤ x.f2 ∧ x.f2 ≤ 100000000 := by
  simp only [bad, Bool.or_eq_false_iff, decide_eq_false_iff_not] at h
  omega
theorem go_good : ∀ (l : List S37) (seen : List Int), go seen l = 0 → ∀ x ∈ l, bad x = false
  | [], _, _, x, hx => by simp at hx
  | y :: r, seen, h, x, hx => by
    unfold go at h
    by_cases hb : bad y = true
    · rw [if_pos hb] at h; omega
    · rw [if_neg hb] at h
      by_cases hm : y.f0 ∈ seen
      · rw [if_pos hm] at h; omega
      · rw [if_neg hm] at h
        rcases List.mem_cons.1 hx with rfl | hx
        · simpa using hb
        · exact go_good r _ h x hx
theorem good_of {l : List S37} (h : rightS l = 0) : l.length ≤ 8 ∧ Sm (·.f1) l ∧ Sm (·.f2) l := by
  unfold rightS at h
  by_cases hl : l.length > 8
  · rw [if_pos hl] at h; omega
  · rw [if_neg hl] at h
    have hg := go_good l [] h
    refine ⟨by omega, fun x hx => ?_, fun x hx => ?_⟩
    · have := bad_false (hg x hx); show 1 ≤ x.f1 ∧ x.f1 ≤ 100000000; omega
    · have := bad_false (hg x hx); show 1 ≤ x.f2 ∧ x.f2 ≤ 100000000; omega
theorem pright_ev (l : List S37) (hl : l.length ≤ 8) (d : Nat) : ∀ (i : Nat) (seen : List Int), l.length - i = d → i ≤ l.length → seen.length = i →
    Ev (fun k => pump_Right.l0 k seen l (l.length : Int) (i : Int)) (go seen (l.drop i)) := by
  induction d with
  | zero =>
    intro i seen hd hi hs
    refine Ev.at1 ?_
    simp only [pump_Right.l0, if_neg (show ¬ ((i : Int) < (l.length : Int)) by omega)]
    rw [List.drop_of_length_le (by omega)]
    simpa [go] using Ev.const 0
  | succ d ih =>
    intro i seen hd hi hs
    have hlt : i < l.length := by omega
    have key : Ev (fun k => pump_Right.j1 k seen l (l.length : Int) (i : Int) (bad l[i]) l[i].f0 l[i].f1 l[i].f2) (go seen (l.drop i)) := by
      refine Ev.at1 ?_
      rw [List.drop_eq_getElem_cons hlt, go]
      by_cases hb : bad l[i] = true
      · simp only [pump_Right.j1, if_pos hb]
        exact Ev.const _
      · have hg := bad_false (by simpa using hb)
        have hin : Mp.inI64 l[i].f0 = true := Mp.inI64_of (by omega) (by omega)
        simp only [pump_Right.j1, if_neg hb, if_pos hin]
        by_cases hm : l[i].f0 ∈ seen
        · have : Mp.has seen l[i].f0 = true := decide_eq_true hm
          simp only [if_pos this, if_pos hm]
          exact Ev.const _
        · have : ¬ (Mp.has seen l[i].f0 = true) := fun h => hm (of_decide_eq_true h)
          simp only [if_neg this, if_neg hm, if_pos (show seen.length < 4611686018427387904 by omega)]
          rw [w64 (by omega) (by omega)]
          exact ih (i + 1) (l[i].f0 :: seen) (by omega) (by omega) (by simp [hs])
    refine Ev.at1 ?_
    simp only [pump_Right.l0, if_pos (show (i : Int) < (l.length : Int) by omega), if_pos (show (0 : Int) ≤ (i : Int) by omega), rd_at hlt]
    by_cases c1 : l[i].f0 < 1
    · have hb : bad l[i] = true := by simp [bad, c1]
      rw [hb] at key; simp only [if_pos c1]; exact key
    by_cases c2 : l[i].f0 > 9999
    · have hb : bad l[i] = true := by simp [bad, c2]
      rw [hb] at key; simp only [if_neg c1, if_pos c2]; exact key
    by_cases c3 : l[i].f1 < 1
    · have hb : bad l[i] = true := by simp [bad, c3]
      rw [hb] at key; simp only [if_neg c1, if_neg c2, if_pos c3]; exact key
    by_cases c4 : l[i].f1 > 1000000
    · have hb : bad l[i] = true := by simp [bad, c4]
      rw [hb] at key; simp only [if_neg c1, if_neg c2, if_neg c3, if_pos c4]; exact key
    by_cases c5 : l[i].f2 < 1
    · have hb : bad l[i] = true := by simp [bad, c5]
      rw [hb] at key; simp only [if_neg c1, if_neg c2, if_neg c3, if_neg c4, if_pos c5]; exact key
    have hb : bad l[i] = decide (l[i].f2 > 100000000) := by simp [bad, c1, c2, c3, c4, c5]
    rw [hb] at key; simp only [if_neg c1, if_neg c2, if_neg c3, if_neg c4, if_neg c5]; exact key
theorem Right_ev (l : List S37) : Ev (fun k => pump_Right.f k l) (rightS l) := by
  unfold pump_Right.f rightS
  by_cases h : l.length > 8
  · simp only [if_pos h, if_pos (show (l.length : Int) > 8 by omega)]
    exact Ev.const _
  · simp only [if_neg h, if_neg (show ¬ ((l.length : Int) > 8) by omega)]
    have h := pright_ev l (by omega) l.length 0 [] (by omega) (by omega) rfl
    simpa using h
/-- The same in the reference's words: seen is what stands ahead. -/
theorem rright_in (l : List S37) (i : Nat) (hl : l.length ≤ 8) (hlt : i < l.length) (R : Int) (hR : Ev (fun k => skiarearef41_Right.l0 k l (wrap64 ((i : Int) + 1))) R) (d : Nat) : ∀ j : Nat, i - j = d → j ≤ i →
    Ev (fun k => skiarearef41_Right.l1 k l (i : Int) (j : Int) l[i].f0 l[i].f1 l[i].f2) (if l[i].f0 ∈ ((l.take i).drop j).map (·.f0) then 7 else R) := by
  induction d with
  | zero =>
    intro j hd hj
    refine Ev.at1 ?_
    simp only [skiarearef41_Right.l1, if_neg (show ¬ ((j : Int) < (i : Int)) by omega)]
    rw [List.drop_of_length_le (by rw [List.length_take]; omega)]
    simpa using hR
  | succ d ih =>
    intro j hd hj
    have hj' : j < l.length := by omega
    have hdr : (l.take i).drop j = l[j] :: (l.take i).drop (j + 1) := by
      rw [List.drop_eq_getElem_cons (by rw [List.length_take]; omega), List.getElem_take]
    refine Ev.at1 ?_
    simp only [skiarearef41_Right.l1, if_pos (show (j : Int) < (i : Int) by omega), if_pos (show (0 : Int) ≤ (j : Int) by omega), if_pos (show (j : Int) < (l.length : Int) by omega), rd_at hj']
    by_cases e : l[j].f0 = l[i].f0
    · have hm : l[i].f0 ∈ ((l.take i).drop j).map (·.f0) := by rw [hdr, List.map_cons, List.mem_cons]; exact .inl e.symm
      simp only [if_pos e, if_pos hm]
      exact Ev.const _
    · have hm : l[i].f0 ∈ ((l.take i).drop j).map (·.f0) ↔ l[i].f0 ∈ ((l.take i).drop (j + 1)).map (·.f0) := by
        rw [hdr, List.map_cons, List.mem_cons]
        exact ⟨fun h => h.resolve_left (fun h' => e h'.symm), fun h => .inr h⟩
      simp only [if_neg e, hm]
      rw [w64 (by omega) (by omega)]
      exact ih (j + 1) (by omega) (by omega)
theorem go_congr : ∀ (l : List S37) (s s' : List Int), (∀ x, x ∈ s ↔ x ∈ s') → go s l = go s' l
  | [], _, _, _ => rfl
  | x :: r, s, s', h => by
    unfold go
    rw [go_congr r (x.f0 :: s) (x.f0 :: s') (fun y => by simp [h y])]
    simp only [h x.f0]
theorem rright_ev (l : List S37) (hl : l.length ≤ 8) (d : Nat) : ∀ (i : Nat), l.length - i = d → i ≤ l.length →
    Ev (fun k => skiarearef41_Right.l0 k l (i : Int)) (go ((l.take i).map (·.f0)) (l.drop i)) := by
  induction d with
  | zero =>
    intro i hd hi
    refine Ev.at1 ?_
    simp only [skiarearef41_Right.l0, if_neg (show ¬ ((i : Int) < (l.length : Int)) by omega)]
    rw [List.drop_of_length_le (by omega)]
    simpa [go] using Ev.const 0
  | succ d ih =>
    intro i hd hi
    have hlt : i < l.length := by omega
    have hnext : Ev (fun k => skiarearef41_Right.l0 k l (wrap64 ((i : Int) + 1))) (go (l[i].f0 :: (l.take i).map (·.f0)) (l.drop (i + 1))) := by
      rw [w64 (by omega) (by omega)]
      have h := ih (i + 1) (by omega) (by omega)
      rw [go_congr _ (l[i].f0 :: (l.take i).map (·.f0)) ((l.take (i + 1)).map (·.f0)) (fun x => by rw [List.take_succ_eq_append_getElem hlt, List.map_append, List.mem_append, List.mem_cons, List.map_cons, List.map_nil, List.mem_singleton]; exact or_comm)]
      exact h
    have key : Ev (fun k => skiarearef41_Right.j1 k l (i : Int) (bad l[i]) l[i].f0 l[i].f1 l[i].f2) (go ((l.take i).map (·.f0)) (l.drop i)) := by
      refine Ev.at1 ?_
      rw [List.drop_eq_getElem_cons hlt, go]
      by_cases hb : bad l[i] = true
      · simp only [skiarearef41_Right.j1, if_pos hb]
        exact Ev.const _
      · simp only [skiarearef41_Right.j1, if_neg hb]
        have h := rright_in l i hl hlt _ hnext i 0 (by omega) (by omega)
        simpa using h
    refine Ev.at1 ?_
    simp only [skiarearef41_Right.l0, if_pos (show (i : Int) < (l.length : Int) by omega), if_pos (show (0 : Int) ≤ (i : Int) by omega), rd_at hlt]
    by_cases c1 : l[i].f0 < 1
    · have hb : bad l[i] = true := by simp [bad, c1]
      rw [hb] at key; simp only [if_pos c1]; exact key
    by_cases c2 : l[i].f0 > 9999
    · have hb : bad l[i] = true := by simp [bad, c2]
      rw [hb] at key; simp only [if_neg c1, if_pos c2]; exact key
    by_cases c3 : l[i].f1 < 1
    · have hb : bad l[i] = true := by simp [bad, c3]
      rw [hb] at key; simp only [if_neg c1, if_neg c2, if_pos c3]; exact key
    by_cases c4 : l[i].f1 > 1000000
    · have hb : bad l[i] = true := by simp [bad, c4]
      rw [hb] at key; simp only [if_neg c1, if_neg c2, if_neg c3, if_pos c4]; exact key
    by_cases c5 : l[i].f2 < 1
    · have hb : bad l[i] = true := by simp [bad, c5]
      rw [hb] at key; simp only [if_neg c1, if_neg c2, if_neg c3, if_neg c4, if_pos c5]; exact key
    have hb : bad l[i] = decide (l[i].f2 > 100000000) := by simp [bad, c1, c2, c3, c4, c5]
    rw [hb] at key; simp only [if_neg c1, if_neg c2, if_neg c3, if_neg c4, if_neg c5]; exact key
theorem rRight_ev (l : List S37) : Ev (fun k => skiarearef41_Right.f k l) (rightS l) := by
  unfold skiarearef41_Right.f rightS
  by_cases h : l.length > 8
  · simp only [if_pos h, if_pos (show (l.length : Int) > 8 by omega)]
    exact Ev.const _
  · simp only [if_neg h, if_neg (show ¬ ((l.length : Int) > 8) by omega)]
    have h := rright_ev l (by omega) l.length 0 (by omega) (by omega)
    simpa using h
theorem alive_ev : Ev (fun k => skiarealaw41_alive.f k) true := Ev.of (fun k => skiarealaw41_alive.mono k) (k := 30) (by decide +kernel)
end Go.Proofs.Ytkehoglbpiibmaa.Pl
