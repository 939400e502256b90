/- Pumps: the best choice, as one pass over all choices, and what is known of it. -/
import Derived.Test.YtkehoglbpiibmaaPl
namespace Go.Proofs.Ytkehoglbpiibmaa.Pl
open Go.RowKit Go.Proofs.Ytkehoglbpiibmaa.M Go.Proofs.YtkehoglbpiibmaaW.PrintWords Go.Proofs.YtkehoglbpiibmaaW.PrintLast Go.Proofs.YtkehoglbpiibmaaW.PrintMore

/-- The choice whose bits are set in b, of n pumps. -/
def ch (n b : Nat) : List Int := ((List.range n).filter fun i : Nat => b.testBit i).map fun i : Nat => (i : Int)
theorem choice_all : ∀ n : Nat, n < 9 → ∀ b : Nat, b < 2 ^ n → pump_choice.f 12 (b : Int) (n : Int) = some (ch n b) := by decide +kernel
theorem subset_all : ∀ n : Nat, n < 9 → ∀ b : Nat, b < 2 ^ n → skiarearef41_subset.f 12 (b : Int) = some (ch n b) := by decide +kernel
theorem mem_ch {n b : Nat} {i : Nat} : (i : Int) ∈ ch n b ↔ i < n ∧ b.testBit i = true := by
  unfold ch
  rw [List.mem_map]
  constructor
  · rintro ⟨j, hj, e⟩
    have : j = i := by omega
    subst this
    simpa using List.mem_filter.1 hj
  · rintro ⟨h1, h2⟩
    exact ⟨i, List.mem_filter.2 ⟨by simpa using h1, h2⟩, rfl⟩
theorem ch_length (n b : Nat) : (ch n b).length ≤ n := by
  unfold ch
  rw [List.length_map]
  exact Nat.le_trans (List.length_filter_le _ _) (by simp)
theorem ch_range {n b : Nat} {x : Int} (h : x ∈ ch n b) : 0 ≤ x ∧ x < n := by
  unfold ch at h
  obtain ⟨j, hj, rfl⟩ := List.mem_map.1 h
  have := (List.mem_filter.1 hj).1
  simp at this
  omega
theorem ch_sorted (n b : Nat) : (ch n b).Pairwise (· < ·) := by
  unfold ch
  rw [List.pairwise_map]
  have h := (List.pairwise_lt_range (n := n)).filter (fun i => b.testBit i)
  exact h.imp (fun h => by omega)

/-- How two lists compare. -/
def cmpL : List Int → List Int → Int
  | [], [] => 0
  | [], _ :: _ => -1
  | _ :: _, [] => 1
  | a :: xs, b :: ys => if a < b then -1 else if a > b then 1 else cmpL xs ys
theorem comp_ev (a b : List Int) (ha : a.length < 4611686018427387904) (d : Nat) : ∀ j : Nat, a.length - j = d → j ≤ a.length → j ≤ b.length →
    Ev (fun k => slices_Compare_int_int.l0 k a b a (a.length : Int) (j : Int)) (cmpL (a.drop j) (b.drop j)) := by
  induction d with
  | zero =>
    intro j hd hj hb
    refine Ev.at1 ?_
    simp only [slices_Compare_int_int.l0, if_neg (show ¬ ((j : Int) < (a.length : Int)) by omega)]
    rw [List.drop_of_length_le (show a.length ≤ j by omega)]
    by_cases h : a.length < b.length
    · simp only [if_pos (show (a.length : Int) < (b.length : Int) by omega)]
      rw [List.drop_eq_getElem_cons (show j < b.length by omega), cmpL]
      exact Ev.const _
    · simp only [if_neg (show ¬ ((a.length : Int) < (b.length : Int)) by omega)]
      rw [List.drop_of_length_le (show b.length ≤ j by omega), cmpL]
      exact Ev.const _
  | succ d ih =>
    intro j hd hj hb
    have hlt : j < a.length := by omega
    have hra : rd a (j : Int) = a[j] := by simp [rd, hlt]
    refine Ev.at1 ?_
    simp only [slices_Compare_int_int.l0, if_pos (show (j : Int) < (a.length : Int) by omega), if_pos (show (0 : Int) ≤ (j : Int) by omega), hra]
    rw [List.drop_eq_getElem_cons hlt]
    by_cases h : j < b.length
    · have hrb : rd b (j : Int) = b[j] := by simp [rd, h]
      simp only [if_neg (show ¬ ((j : Int) ≥ (b.length : Int)) by omega), if_pos (show (j : Int) < (b.length : Int) by omega), hrb]
      rw [List.drop_eq_getElem_cons h, cmpL]
      simp only [cmp_Compare_int.f, cmp_isNaN_int.f, bne_self_eq_false, Option.bind_some, Bool.false_eq_true, if_false]
      by_cases h1 : a[j] < b[j]
      · simp only [if_pos h1, Option.bind_some, if_neg (show ¬ ((-1 : Int) = 0) by omega)]
        exact Ev.const _
      · by_cases h2 : a[j] > b[j]
        · simp only [if_neg h1, if_pos h2, Option.bind_some, if_neg (show ¬ ((1 : Int) = 0) by omega)]
          exact Ev.const _
        · simp only [if_neg h1, if_neg h2, Option.bind_some, if_true]
          rw [w64 (by omega) (by omega)]
          exact ih (j + 1) (by omega) (by omega) (by omega)
    · simp only [if_pos (show (j : Int) ≥ (b.length : Int) by omega)]
      rw [List.drop_of_length_le (show b.length ≤ j by omega), cmpL]
      exact Ev.const _
theorem Compare_ev (a b : List Int) (ha : a.length < 4611686018427387904) : Ev (fun k => slices_Compare_int_int.f k a b) (cmpL a b) := by
  have h := comp_ev a b ha a.length 0 (by omega) (by omega) (by omega)
  simpa [slices_Compare_int_int.f] using h
theorem less_ev (a b : List Int) (ha : a.length < 4611686018427387904) (d : Nat) : ∀ j : Nat, a.length - j = d → j ≤ a.length → j ≤ b.length →
    Ev (fun k => skiarearef41_Less.l0 k a b (j : Int)) (decide (cmpL (a.drop j) (b.drop j) < 0)) := by
  induction d with
  | zero =>
    intro j hd hj hb
    refine Ev.at1 ?_
    simp only [skiarearef41_Less.l0, if_neg (show ¬ ((j : Int) < (a.length : Int)) by omega)]
    refine Ev.at1 ?_
    simp only [skiarearef41_Less.j1, Bool.false_eq_true, if_false]
    rw [List.drop_of_length_le (show a.length ≤ j by omega)]
    by_cases h : a.length < b.length
    · rw [List.drop_eq_getElem_cons (show j < b.length by omega), cmpL, decide_eq_true (show (a.length : Int) < (b.length : Int) by omega)]
      exact Ev.const _
    · rw [List.drop_of_length_le (show b.length ≤ j by omega), cmpL, decide_eq_false (show ¬ (a.length : Int) < (b.length : Int) by omega)]
      exact Ev.const _
  | succ d ih =>
    intro j hd hj hb
    have hlt : j < a.length := by omega
    have hra : rd a (j : Int) = a[j] := by simp [rd, hlt]
    refine Ev.at1 ?_
    simp only [skiarearef41_Less.l0, if_pos (show (j : Int) < (a.length : Int) by omega)]
    refine Ev.at1 ?_
    rw [List.drop_eq_getElem_cons hlt]
    by_cases h : j < b.length
    · have hrb : rd b (j : Int) = b[j] := by simp [rd, h]
      simp only [skiarearef41_Less.j1, decide_eq_true (show (j : Int) < (b.length : Int) by omega), if_true, if_pos (show (j : Int) < (a.length : Int) by omega), if_pos (show (j : Int) < (b.length : Int) by omega), if_pos (show (0 : Int) ≤ (j : Int) by omega), hra, hrb]
      rw [List.drop_eq_getElem_cons h, cmpL]
      by_cases e : a[j] = b[j]
      · simp only [if_pos e, if_neg (show ¬ a[j] < b[j] by omega), if_neg (show ¬ a[j] > b[j] by omega)]
        rw [w64 (by omega) (by omega)]
        exact ih (j + 1) (by omega) (by omega) (by omega)
      · simp only [if_neg e]
        by_cases h1 : a[j] < b[j]
        · simp only [h1]
          exact Ev.const _
        · simp only [h1, if_false, if_pos (show a[j] > b[j] by omega)]
          exact Ev.const _
    · simp only [skiarearef41_Less.j1, decide_eq_false (show ¬ (j : Int) < (b.length : Int) by omega), Bool.false_eq_true, if_false]
      rw [List.drop_of_length_le (show b.length ≤ j by omega), cmpL, decide_eq_false (show ¬ (a.length : Int) < (b.length : Int) by omega)]
      exact Ev.const _
theorem Less_ev (a b : List Int) (ha : a.length < 4611686018427387904) : Ev (fun k => skiarearef41_Less.f k a b) (decide (cmpL a b < 0)) := by
  have h := less_ev a b ha a.length 0 (by omega) (by omega) (by omega)
  simpa [skiarearef41_Less.f] using h
theorem cmpL_self : ∀ a : List Int, cmpL a a = 0
  | [] => rfl
  | x :: r => by unfold cmpL; rw [if_neg (by omega), if_neg (by omega)]; exact cmpL_self r
theorem Same_ev (a : List Int) (ha : a.length < 4611686018427387904) : Ev (fun k => skiarearef41_Same.f k a a) true := by
  unfold skiarearef41_Same.f
  have h := Less_ev a a ha
  rw [cmpL_self] at h
  refine Ev.bind (a := false) (by simpa using h) ?_
  simp only [Bool.false_eq_true, if_false]
  exact Ev.bind (a := false) (by simpa using h) (Ev.const _)

/-- What is kept of the choices so far: is there one; it; its power. -/
abbrev St := Bool × List Int × Int
/-- One more choice. -/
def step (l : List S37) (flow : Int) (s : St) (c : List Int) : St :=
  if ss (·.f1) c 0 l < flow then s
  else if s.1 = true then
    if ss (·.f2) c 0 l < s.2.2 then (true, c, ss (·.f2) c 0 l)
    else if ss (·.f2) c 0 l = s.2.2 then if cmpL c s.2.1 < 0 then (true, c, ss (·.f2) c 0 l) else s
    else s
  else (true, c, ss (·.f2) c 0 l)
/-- The choices from number b on. -/
def fromB (n b : Nat) : List (List Int) := (List.range' b (2 ^ n - b)).map (ch n)
def endS (s : St) : List Int × Int × Int := if s.1 = true then (s.2.1, s.2.2, 0) else ([], 0, 9)
def bestS (l : List S37) (flow : Int) : List Int × Int × Int := if flow < 0 then ([], 0, 2) else endS ((fromB l.length 0).foldl (step l flow) (false, [], 0))
theorem fromB_cons {n b : Nat} (h : b < 2 ^ n) : fromB n b = ch n b :: fromB n (b + 1) := by
  unfold fromB
  rw [show 2 ^ n - b = (2 ^ n - (b + 1)) + 1 by omega, List.range'_succ, List.map_cons]
theorem fromB_nil {n b : Nat} (h : 2 ^ n ≤ b) : fromB n b = [] := by
  unfold fromB
  rw [show 2 ^ n - b = 0 by omega]
  rfl

theorem pow_le {l : List S37} (hl : l.length ≤ 8) : 2 ^ l.length ≤ 256 := by
  have : 2 ^ l.length ≤ 2 ^ 8 := Nat.pow_le_pow_right (by omega) hl
  omega
theorem shl_pow {l : List S37} (hl : l.length ≤ 8) : shl .i64 1 (l.length : Int) = ((2 ^ l.length : Nat) : Int) := by
  have : ∀ n : Nat, n < 9 → shl .i64 1 (n : Int) = ((2 ^ n : Nat) : Int) := by decide +kernel
  exact this _ (by omega)
section
variable {l : List S37} (hl : l.length ≤ 8) (h1 : Sm (·.f1) l) (h2 : Sm (·.f2) l)
include hl h1 h2
theorem pbest_ev (flow : Int) (d : Nat) : ∀ (b : Nat) (s : St), 2 ^ l.length - b = d → b ≤ 2 ^ l.length →
    Ev (fun k => pump_Best.l0 k l flow s.1 s.2.1 s.2.2 ((2 ^ l.length : Nat) : Int) (b : Int)) (endS ((fromB l.length b).foldl (step l flow) s)) := by
  have hp := pow_le hl
  induction d with
  | zero =>
    intro b s hd hb
    refine Ev.at1 ?_
    simp only [pump_Best.l0, if_neg (show ¬ ((b : Int) < ((2 ^ l.length : Nat) : Int)) by omega)]
    rw [fromB_nil (by omega)]
    unfold endS
    by_cases h : s.1 = true
    · simp only [h, if_true, List.foldl_nil]
      exact Ev.const _
    · simp only [h, if_false, List.foldl_nil, Bool.false_eq_true]
      exact Ev.const _
  | succ d ih =>
    intro b s hd hb
    have hlt : b < 2 ^ l.length := by omega
    have hc : (ch l.length b).length < 4611686018427387904 := by have := ch_length l.length b; omega
    have hch : Ev (fun k => pump_choice.f k (b : Int) (l.length : Int)) (ch l.length b) := Ev.of (fun k => pump_choice.mono _ _ k) (choice_all l.length (by omega) b hlt)
    have hn := fun s' : St => ih (b + 1) s' (by omega) (by omega)
    have ew : wrap64 ((b : Int) + 1) = ((b + 1 : Nat) : Int) := by rw [w64 (by omega) (by omega)]; rfl
    refine Ev.at1 ?_
    simp only [pump_Best.l0, if_pos (show (b : Int) < ((2 ^ l.length : Nat) : Int) by omega), ew]
    rw [fromB_cons hlt, List.foldl_cons]
    refine Ev.bind hch ?_
    refine Ev.bind (Power_ev hc (by omega) h2) ?_
    refine Ev.bind (Flow_ev hc (by omega) h1) ?_
    unfold step
    by_cases c1 : ss (·.f1) (ch l.length b) 0 l < flow
    · simp only [if_pos c1]
      exact hn s
    · by_cases c2 : s.1 = true
      · by_cases c3 : ss (·.f2) (ch l.length b) 0 l < s.2.2
        · simp only [if_neg c1, if_pos c2, if_pos c3]
          exact hn (true, ch l.length b, _)
        · by_cases c4 : ss (·.f2) (ch l.length b) 0 l = s.2.2
          · simp only [if_neg c1, if_pos c2, if_neg c3, if_pos c4]
            refine Ev.bind (Compare_ev _ _ hc) ?_
            by_cases c5 : cmpL (ch l.length b) s.2.1 < 0
            · simp only [if_pos c5]
              exact hn (true, ch l.length b, _)
            · simp only [if_neg c5]
              exact hn s
          · simp only [if_neg c1, if_pos c2, if_neg c3, if_neg c4]
            exact hn s
      · simp only [if_neg c1, if_neg c2]
        exact hn (true, ch l.length b, _)
theorem Best_ev (flow : Int) : Ev (fun k => pump_Best.f k l flow) (bestS l flow) := by
  unfold pump_Best.f bestS
  by_cases h : flow < 0
  · simp only [if_pos h]
    exact Ev.const _
  · simp only [if_neg h]
    rw [shl_pow hl]
    exact pbest_ev hl h1 h2 flow _ 0 (false, [], 0) rfl (Nat.zero_le _)
theorem rbest_ev (flow : Int) (d : Nat) : ∀ (b : Nat) (s : St), 2 ^ l.length - b = d → b ≤ 2 ^ l.length →
    Ev (fun k => skiarearef41_Best.l1 k l flow ((2 ^ l.length : Nat) : Int) s.2.1 s.2.2 s.1 (b : Int)) (endS ((fromB l.length b).foldl (step l flow) s)) := by
  have hp := pow_le hl
  induction d with
  | zero =>
    intro b s hd hb
    refine Ev.at1 ?_
    simp only [skiarearef41_Best.l1, if_neg (show ¬ ((b : Int) < ((2 ^ l.length : Nat) : Int)) by omega)]
    rw [fromB_nil (by omega)]
    unfold endS
    by_cases h : s.1 = true
    · simp only [h, if_true, List.foldl_nil]
      exact Ev.const _
    · simp only [h, if_false, List.foldl_nil, Bool.false_eq_true]
      exact Ev.const _
  | succ d ih =>
    intro b s hd hb
    have hlt : b < 2 ^ l.length := by omega
    have hc : (ch l.length b).length < 4611686018427387904 := by have := ch_length l.length b; omega
    have hch : Ev (fun k => skiarearef41_subset.f k (b : Int)) (ch l.length b) := Ev.of (fun k => skiarearef41_subset.mono _ k) (subset_all l.length (by omega) b hlt)
    have hn := fun s' : St => ih (b + 1) s' (by omega) (by omega)
    have ew : wrap64 ((b : Int) + 1) = ((b + 1 : Nat) : Int) := by rw [w64 (by omega) (by omega)]; rfl
    refine Ev.at1 ?_
    simp only [skiarearef41_Best.l1, if_pos (show (b : Int) < ((2 ^ l.length : Nat) : Int) by omega), ew]
    rw [fromB_cons hlt, List.foldl_cons]
    refine Ev.bind hch ?_
    refine Ev.bind (rFlow_ev hc (by omega) h1) ?_
    unfold step
    by_cases c1 : ss (·.f1) (ch l.length b) 0 l < flow
    · simp only [if_pos c1]
      exact hn s
    · simp only [if_neg c1]
      refine Ev.bind (rPower_ev hc (by omega) h2) ?_
      by_cases c2 : s.1 = true
      · by_cases c3 : ss (·.f2) (ch l.length b) 0 l < s.2.2
        · simp only [if_pos c2, if_pos c3]
          exact hn (true, ch l.length b, _)
        · by_cases c4 : ss (·.f2) (ch l.length b) 0 l = s.2.2
          · simp only [if_pos c2, if_neg c3, if_pos c4]
            refine Ev.bind (Less_ev _ _ hc) ?_
            by_cases c5 : cmpL (ch l.length b) s.2.1 < 0
            · simp only [c5, decide_true, if_true]
              exact hn (true, ch l.length b, _)
            · simp only [c5, decide_false, Bool.false_eq_true, if_false]
              exact hn s
          · simp only [if_pos c2, if_neg c3, if_neg c4]
            exact hn s
      · simp only [if_neg c2]
        exact hn (true, ch l.length b, _)
theorem rall_ev (flow : Int) (d : Nat) : ∀ i : Nat, l.length - i = d → i ≤ l.length →
    Ev (fun k => skiarearef41_Best.l0 k l flow ((2 ^ i : Nat) : Int) (i : Int)) (endS ((fromB l.length 0).foldl (step l flow) (false, [], 0))) := by
  induction d with
  | zero =>
    intro i hd hi
    have : i = l.length := by omega
    subst this
    refine Ev.at1 ?_
    simp only [skiarearef41_Best.l0, if_neg (show ¬ ((l.length : Int) < (l.length : Int)) by omega)]
    exact rbest_ev hl h1 h2 flow _ 0 (false, [], 0) rfl (Nat.zero_le _)
  | succ d ih =>
    intro i hd hi
    have hp : 2 ^ i ≤ 256 := by
      have : 2 ^ i ≤ 2 ^ 8 := Nat.pow_le_pow_right (by omega) (by omega)
      omega
    have hq : 0 ≤ ((2 ^ i : Nat) : Int) := Int.natCast_nonneg _
    refine Ev.at1 ?_
    simp only [skiarearef41_Best.l0, if_pos (show (i : Int) < (l.length : Int) by omega)]
    rw [w64 (n := 2 * ((2 ^ i : Nat) : Int)) (by omega) (by omega), w64 (n := (i : Int) + 1) (by omega) (by omega)]
    have e : 2 * ((2 ^ i : Nat) : Int) = ((2 ^ (i + 1) : Nat) : Int) := by rw [Nat.pow_succ]; push_cast; omega
    rw [e]
    exact ih (i + 1) (by omega) (by omega)
theorem rBest_ev (flow : Int) : Ev (fun k => skiarearef41_Best.f k l flow) (bestS l flow) := by
  unfold skiarearef41_Best.f bestS
  by_cases h : flow < 0
  · simp only [if_pos h]
    exact Ev.const _
  · simp only [if_neg h]
    exact rall_ev hl h1 h2 flow _ 0 rfl (by omega)
end

/-! ### What is known of the best choice -/
/-- Behind the choices in cs: one that delivers enough is kept if there is any, and none of them takes less power. -/
theorem fold_inv (l : List S37) (flow : Int) : ∀ (cs : List (List Int)) (s : St), (s.1 = true → ss (·.f1) s.2.1 0 l ≥ flow ∧ s.2.2 = ss (·.f2) s.2.1 0 l) →
    ((cs.foldl (step l flow) s).1 = true → ss (·.f1) (cs.foldl (step l flow) s).2.1 0 l ≥ flow ∧ (cs.foldl (step l flow) s).2.2 = ss (·.f2) (cs.foldl (step l flow) s).2.1 0 l ∧ ((cs.foldl (step l flow) s).2.1 ∈ cs ∨ s.1 = true ∧ (cs.foldl (step l flow) s).2.1 = s.2.1)) ∧
      (s.1 = true → (cs.foldl (step l flow) s).1 = true ∧ (cs.foldl (step l flow) s).2.2 ≤ s.2.2) ∧
      ∀ c ∈ cs, ss (·.f1) c 0 l ≥ flow → (cs.foldl (step l flow) s).1 = true ∧ (cs.foldl (step l flow) s).2.2 ≤ ss (·.f2) c 0 l
  | [], s, hs => ⟨fun h => ⟨(hs h).1, (hs h).2, .inr ⟨h, rfl⟩⟩, fun h => ⟨h, Int.le_refl _⟩, fun c hc => by simp at hc⟩
  | c :: cs, s, hs => by
    have hst : (step l flow s c).1 = true → ss (·.f1) (step l flow s c).2.1 0 l ≥ flow ∧ (step l flow s c).2.2 = ss (·.f2) (step l flow s c).2.1 0 l := by
      unfold step
      split
      · exact hs
      · split
        · split
          · intro _; exact ⟨by simp only; omega, rfl⟩
          · split
            · split
              · intro _; exact ⟨by simp only; omega, rfl⟩
              · exact hs
            · exact hs
        · intro _; exact ⟨by simp only; omega, rfl⟩
    have hmore : (s.1 = true → (step l flow s c).1 = true ∧ (step l flow s c).2.2 ≤ s.2.2) ∧ (ss (·.f1) c 0 l ≥ flow → (step l flow s c).1 = true ∧ (step l flow s c).2.2 ≤ ss (·.f2) c 0 l) ∧ ((step l flow s c).1 = true → (step l flow s c).2.1 = c ∨ s.1 = true ∧ (step l flow s c).2.1 = s.2.1) := by
      unfold step
      split
      · rename_i h0
        exact ⟨fun h => ⟨h, Int.le_refl _⟩, fun h => absurd h0 (by omega), fun h => .inr ⟨h, rfl⟩⟩
      · split
        · rename_i hs1
          split
          · exact ⟨fun _ => ⟨rfl, by simp only; omega⟩, fun _ => ⟨rfl, Int.le_refl _⟩, fun _ => .inl rfl⟩
          · split
            · split
              · exact ⟨fun _ => ⟨rfl, by simp only; omega⟩, fun _ => ⟨rfl, Int.le_refl _⟩, fun _ => .inl rfl⟩
              · exact ⟨fun h => ⟨h, Int.le_refl _⟩, fun _ => ⟨hs1, by omega⟩, fun h => .inr ⟨h, rfl⟩⟩
            · exact ⟨fun h => ⟨h, Int.le_refl _⟩, fun _ => ⟨hs1, by omega⟩, fun h => .inr ⟨h, rfl⟩⟩
        · rename_i hs1
          exact ⟨fun h => absurd h hs1, fun _ => ⟨rfl, Int.le_refl _⟩, fun _ => .inl rfl⟩
    obtain ⟨i1, i2, i3⟩ := fold_inv l flow cs (step l flow s c) hst
    simp only [List.foldl_cons]
    refine ⟨fun h => ?_, fun h => ?_, fun c' hc' hf => ?_⟩
    · obtain ⟨a, b, d⟩ := i1 h
      refine ⟨a, b, ?_⟩
      rcases d with d | ⟨d1, d2⟩
      · exact .inl (List.mem_cons_of_mem _ d)
      · rcases hmore.2.2 d1 with e | ⟨e1, e2⟩
        · exact .inl (by rw [d2, e]; simp)
        · exact .inr ⟨e1, d2.trans e2⟩
    · obtain ⟨a, b⟩ := hmore.1 h
      obtain ⟨a', b'⟩ := i2 a
      exact ⟨a', by omega⟩
    · rcases List.mem_cons.1 hc' with rfl | hc'
      · obtain ⟨a, b⟩ := hmore.2.1 hf
        obtain ⟨a', b'⟩ := i2 a
        exact ⟨a', by omega⟩
      · exact i3 c' hc' hf
/-- Every set of pumps is a choice. -/
theorem bits_of (p : Nat → Bool) : ∀ n : Nat, ∃ b, b < 2 ^ n ∧ ∀ i < n, b.testBit i = p i
  | 0 => ⟨0, by simp, fun i hi => absurd hi (by omega)⟩
  | n + 1 => by
    obtain ⟨b, hb, h⟩ := bits_of p n
    by_cases hp : p n = true
    · refine ⟨2 ^ n + b, by rw [Nat.pow_succ]; omega, fun i hi => ?_⟩
      rcases Nat.lt_succ_iff_lt_or_eq.1 hi with hlt | rfl
      · rw [Nat.testBit_two_pow_add_gt hlt, h i hlt]
      · rw [Nat.testBit_two_pow_add_eq, Nat.testBit_lt_two_pow hb, hp]; rfl
    · refine ⟨b, by rw [Nat.pow_succ]; omega, fun i hi => ?_⟩
      rcases Nat.lt_succ_iff_lt_or_eq.1 hi with hlt | rfl
      · exact h i hlt
      · rw [Nat.testBit_lt_two_pow hb]; simpa using hp
theorem ss_congr (of : S37 → Int) (c c' : List Int) : ∀ (l : List S37) (i : Nat), (∀ j : Nat, i ≤ j → j < i + l.length → ((j : Int) ∈ c ↔ (j : Int) ∈ c')) → ss of c i l = ss of c' i l
  | [], _, _ => rfl
  | x :: r, i, h => by
    unfold ss
    have h0 := h i (Nat.le_refl _) (by simp)
    have hr := ss_congr of c c' r (i + 1) (fun j h1 h2 => h j (by omega) (by simp only [List.length_cons]; omega))
    rw [hr]
    simp only [h0]
/-- A choice as one of those that are looked at. -/
theorem canon (l : List S37) (c : List Int) : ∃ b : Nat, b < 2 ^ l.length ∧ ∀ of, ss of (ch l.length b) 0 l = ss of c 0 l := by
  obtain ⟨b, hb, h⟩ := bits_of (fun i => decide ((i : Int) ∈ c)) l.length
  refine ⟨b, hb, fun of => ss_congr of _ _ l 0 (fun j _ hj => ?_)⟩
  have hj' : j < l.length := by omega
  rw [mem_ch, h j hj']
  simp [hj']
theorem mem_from {n b : Nat} (h : b < 2 ^ n) : ch n b ∈ fromB n 0 := by
  unfold fromB
  exact List.mem_map.2 ⟨b, by rw [List.mem_range'_1]; omega, rfl⟩
/-- What Best comes to, in plain words. -/
theorem best_says (l : List S37) (flow : Int) (hf : 0 ≤ flow) :
    (bestS l flow = ([], 0, 9) ∧ ∀ c, ss (·.f1) c 0 l < flow) ∨
    ∃ b, b < 2 ^ l.length ∧ bestS l flow = (ch l.length b, ss (·.f2) (ch l.length b) 0 l, 0) ∧ ss (·.f1) (ch l.length b) 0 l ≥ flow ∧ ∀ c, ss (·.f1) c 0 l ≥ flow → ss (·.f2) (ch l.length b) 0 l ≤ ss (·.f2) c 0 l := by
  obtain ⟨i1, _, i3⟩ := fold_inv l flow (fromB l.length 0) (false, [], 0) (fun h => by simp at h)
  unfold bestS endS
  rw [if_neg (by omega)]
  by_cases h : ((fromB l.length 0).foldl (step l flow) (false, [], 0)).1 = true
  · right
    obtain ⟨a1, a2, a3⟩ := i1 h
    have hin := a3.resolve_right (fun h => by simp at h)
    obtain ⟨b, hb, e⟩ := List.mem_map.1 hin
    rw [List.mem_range'_1] at hb
    have hb' : b < 2 ^ l.length := by omega
    refine ⟨b, hb', ?_, ?_, fun c hc => ?_⟩
    · rw [if_pos h, a2, e]
    · rw [e]; exact a1
    · obtain ⟨b', hb'', hs⟩ := canon l c
      have := (i3 _ (mem_from hb'') (by rw [hs]; exact hc)).2
      rw [hs, a2, ← e] at this
      exact this
  · left
    refine ⟨by rw [if_neg h], fun c => ?_⟩
    obtain ⟨b', hb'', hs⟩ := canon l c
    refine Int.not_le.1 (fun hc => h (i3 _ (mem_from hb'') (by rw [hs]; exact hc)).1)
theorem best_neg (l : List S37) {flow : Int} (hf : flow < 0) : bestS l flow = ([], 0, 2) := by unfold bestS; rw [if_pos hf]
end Go.Proofs.Ytkehoglbpiibmaa.Pl
