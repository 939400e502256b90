/- Rides: Right, Same and Add, and the chapter's examples. -/
import Derived.Test.YtgohhekihfilbaaMx7
import Derived.Test.YtgohhekihfilbaaRm
namespace Go.Proofs.Ytgohhekihfilbaa.Rl
open Go.RowKit Go.Proofs.Ytgohhekihfilbaa.M Go.Proofs.YtgohhekihfilbaaW.PrintWords Go.Proofs.YtgohhekihfilbaaW.PrintLast Go.Proofs.YtgohhekihfilbaaW.PrintMore
set_option linter.unusedSimpArgs false

theorem ite_false_eq (p : Prop) [Decidable p] (b : Bool) : (if p then some b else some false) = some (decide p && b) := by
  by_cases h : p <;> simp [h]
theorem ranges_eq (x : S28) : skiarearef31_ranges.f x.f0 x.f1 x.f2 x.f3 x.f4 x.f5 x.f6 = some (decide (¬ bad x)) := by
  unfold skiarearef31_ranges.f
  simp only [ite_false_eq]
  congr 1
  rw [Bool.eq_iff_iff]
  simp only [Bool.and_eq_true, decide_eq_true_eq, bad, not_or, Int.not_lt, ge_iff_le]
theorem before_eq (x y : S28) : skiarearef31_before.f x.f0 x.f1 x.f2 x.f3 x.f4 x.f5 x.f6 y.f0 y.f1 y.f2 y.f3 y.f4 y.f5 y.f6 = some (decide (lt x y)) := by
  unfold skiarearef31_before.f lt
  by_cases h1 : x.f0 < y.f0
  · simp [h1]
  · by_cases h2 : x.f0 = y.f0
    · simp [h2]
    · simp [h1, h2]

/-! ### The reference's Right -/
theorem rRight_go (l : List S28) (hl : l.length ≤ 2000) (d : Nat) : ∀ i : Nat, l.length - i = d → i ≤ l.length →
    Ev (fun k => skiarearef31_Right.l0 k l (i : Int)) (rgo (prev l i) (l.drop i)) := by
  induction d with
  | zero =>
    intro i hd hi
    refine Ev.at1 ?_
    simp only [skiarearef31_Right.l0, if_neg (show ¬ ((i : Int) < (l.length : Int)) by omega)]
    rw [List.drop_of_length_le (by omega)]
    exact Ev.const _
  | succ d ih =>
    intro i hd hi
    have hlt : i < l.length := by omega
    refine Ev.at1 ?_
    simp only [skiarearef31_Right.l0, if_pos (show (i : Int) < (l.length : Int) by omega), if_pos (show (0 : Int) ≤ (i : Int) by omega), rd_at hlt, ranges_eq, Option.bind_some]
    rw [List.drop_eq_getElem_cons hlt]
    have ih' := ih (i + 1) (by omega) (by omega)
    rw [show prev l (i + 1) = some l[i] by simp [prev, hlt]] at ih'
    rw [show (((i + 1 : Nat) : Int)) = (i : Int) + 1 by omega] at ih'
    by_cases hb : bad l[i]
    · simp only [hb, not_true, decide_false, Bool.false_eq_true, if_false, rgo, if_true]
      exact Ev.const _
    · simp only [hb, not_false_eq_true, decide_true, if_true]
      rw [w64 (n := (i : Int) + 1) (by omega) (by omega), w64 (n := (i : Int) - 1) (by omega) (by omega)]
      by_cases h0 : i = 0
      · subst h0
        simp only [rgo, hb, if_false, prev, if_true, Int.natCast_zero, Int.lt_irrefl, gt_iff_lt]
        exact ih'
      · have hp : (i : Int) - 1 = ((i - 1 : Nat) : Int) := by omega
        rw [hp]
        simp only [if_pos (show (i : Int) > 0 by omega), if_pos (show (0 : Int) ≤ ((i - 1 : Nat) : Int) by omega), if_pos (show ((i - 1 : Nat) : Int) < (l.length : Int) by omega), rd_at (show i - 1 < l.length by omega), before_eq, Option.bind_some]
        rw [show prev l i = some l[i - 1] by simp [prev, h0, show i - 1 < l.length by omega]]
        simp only [rgo, hb, if_false]
        by_cases hlt2 : lt l[i - 1] l[i]
        · simp only [hlt2, decide_true, if_true]
          exact ih'
        · simp only [hlt2, decide_false, Bool.false_eq_true, if_false]
          exact Ev.const _
theorem rRight_ev (l : List S28) : Ev (fun k => skiarearef31_Right.f k l) (rightS l) := by
  unfold skiarearef31_Right.f rightS
  by_cases h : (l.length : Int) > 2000
  · simp only [if_pos h]
    exact Ev.const _
  · simp only [if_neg h]
    exact rRight_go l (by omega) l.length 0 (by omega) (by omega)
/-- A store with at most 300 rides. -/
def okS (l : List S28) : Prop := l.length ≤ 300 ∧ store l
theorem right_ev (l : List S28) : ∃ b, Ev (fun k => skiarealaw31_right.f k l) b ∧ (b = true ↔ okS l) := by
  unfold skiarealaw31_right.f
  by_cases h : (l.length : Int) ≤ 300
  · refine ⟨rightS l == 0, ?_, ?_⟩
    · simp only [if_pos h]
      refine Ev.bind (rRight_ev l) ?_
      exact Ev.const _
    · rw [beq_iff_eq, rightS_zero]
      unfold okS
      exact ⟨fun h2 => ⟨by omega, h2.2⟩, fun h2 => ⟨by omega, h2.2⟩⟩
  · refine ⟨false, ?_, ?_⟩
    · simp only [if_neg h]
      exact Ev.const _
    · unfold okS
      simp
      omega

/-! ### Same -/
theorem Same_go (a b : List S28) (hl : a.length = b.length) (h6 : a.length ≤ 1000000) (d : Nat) : ∀ i : Nat, a.length - i = d → i ≤ a.length →
    Ev (fun k => skiarearef31_Same.l0 k a b (i : Int)) (decide (a.drop i = b.drop i)) := by
  induction d with
  | zero =>
    intro i hd hi
    refine Ev.at1 ?_
    simp only [skiarearef31_Same.l0, if_neg (show ¬ ((i : Int) < (a.length : Int)) by omega)]
    rw [List.drop_of_length_le (show a.length ≤ i by omega), List.drop_of_length_le (show b.length ≤ i by omega)]
    simpa using Ev.const true
  | succ d ih =>
    intro i hd hi
    have h1 : i < a.length := by omega
    have h2 : i < b.length := by omega
    refine Ev.at1 ?_
    simp only [skiarearef31_Same.l0, if_pos (show (i : Int) < (a.length : Int) by omega), if_pos (show (0 : Int) ≤ (i : Int) by omega), if_pos (show (i : Int) < (b.length : Int) by omega), rd_at h1, rd_at h2, ne_s28]
    rw [List.drop_eq_getElem_cons h1, List.drop_eq_getElem_cons h2]
    by_cases e : a[i] = b[i]
    · simp only [e, ne_eq, not_true, if_false]
      rw [w64 (n := (i : Int) + 1) (by omega) (by omega)]
      have := ih (i + 1) (by omega) (by omega)
      rw [show (((i + 1 : Nat) : Int)) = (i : Int) + 1 by omega] at this
      simpa only [List.cons.injEq, true_and] using this
    · simp only [ne_eq, e, not_false_eq_true, if_true]
      rw [show decide (a[i] :: a.drop (i + 1) = b[i] :: b.drop (i + 1)) = false from decide_eq_false (fun h => e (List.cons.inj h).1)]
      exact Ev.const _
theorem Same_ev (a b : List S28) (h6 : a.length ≤ 1000000) : Ev (fun k => skiarearef31_Same.f k a b) (decide (a = b)) := by
  unfold skiarearef31_Same.f
  by_cases h : a.length = b.length
  · simp only [if_pos (show (a.length : Int) = (b.length : Int) by omega)]
    simpa using Same_go a b h h6 a.length 0 (by omega) (by omega)
  · simp only [if_neg (show ¬ ((a.length : Int) = (b.length : Int)) by omega)]
    rw [show decide (a = b) = false from decide_eq_false (fun e => h (by rw [e]))]
    exact Ev.const _
theorem Same_self (a : List S28) (h6 : a.length ≤ 1000000) : Ev (fun k => skiarearef31_Same.f k a a) true := by
  have := Same_ev a a h6
  rwa [decide_eq_true rfl] at this

/-! ### Add -/
def addS (l : List S28) (x : S28) : List S28 × Bool × Int :=
  if bad x then ([], false, 2) else if (mres l [x]).2 = 0 then ((mres l [x]).1, decide (((mres l [x]).1.length : Int) > (l.length : Int)), 0) else ([], false, (mres l [x]).2)
theorem store_one {x : S28} (h : ¬ bad x) : store [x] := ⟨fun y hy => by rw [List.mem_singleton] at hy; exact hy ▸ h, List.pairwise_singleton _ _⟩
theorem Add_ev {l : List S28} (hs : store l) (hl : l.length ≤ 100000) (x : S28) : Ev (fun k => rides_Add.f k l x.f0 x.f1 x.f2 x.f3 x.f4 x.f5 x.f6) (addS l x) := by
  unfold rides_Add.f addS
  simp only [check_eq, Option.bind_some, S28.eta]
  by_cases hb : bad x
  · simp only [hb, if_true, show ¬ ((2 : Int) = 0) by decide, if_false]
    exact Ev.const _
  · simp only [hb, if_false, if_true]
    refine Ev.bind (Merge_ev hs (store_one hb) (by omega) (by simp)) ?_
    by_cases h0 : (mres l [x]).2 = 0
    · simp only [h0, if_true]
      exact Ev.const _
    · simp only [h0, if_false]
      exact Ev.const _
theorem mres_len (a b : List S28) : (mres a b).1.length ≤ 2000 := by
  unfold mres
  cases mg a b with
  | none => simp
  | some m =>
    simp only
    split
    · simp
    · simp only; omega
theorem addS_len (l : List S28) (x : S28) : (addS l x).1.length ≤ 2000 := by
  unfold addS
  have := mres_len l [x]
  split
  · simp
  · split
    · exact this
    · simp

/-! ### The chapter's examples -/
def rd_ (seq at_ : Int) : S28 := ⟨2, seq, 5, seq, 3, 9, at_⟩
theorem ride_eq (a b : Int) : skiarealaw31_ride.f a b = some (2, a, 5, a, 3, 9, b) := rfl
theorem alive_ev : Ev (fun k => skiarealaw31_alive.f k) true := by
  have s1 : store [rd_ 1 10, rd_ 3 30] := ⟨by decide, by decide⟩
  have s2 : store [rd_ 3 30, rd_ 4 40] := ⟨by decide, by decide⟩
  have s3 : store [rd_ 3 31] := ⟨by decide, by decide⟩
  have s4 : store [rd_ 1 10, rd_ 3 30, rd_ 4 40] := ⟨by decide, by decide⟩
  have s5 : store [rd_ 1 10, rd_ 2 20, rd_ 3 30, rd_ 4 40] := ⟨by decide, by decide⟩
  have m1 : mres [rd_ 1 10, rd_ 3 30] [rd_ 3 30, rd_ 4 40] = ([rd_ 1 10, rd_ 3 30, rd_ 4 40], 0) := by simp [mres, mg, lt, rd_]
  have m2 : mres [rd_ 1 10, rd_ 3 30] [rd_ 3 31] = ([], 15) := by simp [mres, mg, lt, rd_]
  have a1 : addS [rd_ 1 10, rd_ 3 30, rd_ 4 40] (rd_ 2 20) = ([rd_ 1 10, rd_ 2 20, rd_ 3 30, rd_ 4 40], true, 0) := by simp [addS, bad, mres, mg, lt, rd_]
  have a2 : addS [rd_ 1 10, rd_ 2 20, rd_ 3 30, rd_ 4 40] (rd_ 2 20) = ([rd_ 1 10, rd_ 2 20, rd_ 3 30, rd_ 4 40], false, 0) := by simp [addS, bad, mres, mg, lt, rd_]
  have e1 := Merge_ev s1 s2 (by simp) (by simp)
  have e2 := Merge_ev s1 s3 (by simp) (by simp)
  have e3 := Add_ev s4 (by simp) (rd_ 2 20)
  have e4 := Add_ev s5 (by simp) (rd_ 2 20)
  rw [m1] at e1
  rw [m2] at e2
  rw [a1] at e3
  rw [a2] at e4
  unfold skiarealaw31_alive.f
  simp only [ride_eq, Option.bind_some]
  refine Ev.bind e1 ?_
  refine Ev.bind e2 ?_
  refine Ev.bind e3 ?_
  refine Ev.bind e4 ?_
  simp only [if_true]
  refine Ev.bind (Same_self [rd_ 1 10, rd_ 3 30, rd_ 4 40] (by simp)) ?_
  simp only [if_true]
  refine Ev.bind (a := [2]) (Ev.of (fun k => rides_Gaps.mono _ _ k) (k := 30) (by decide +kernel)) ?_
  refine Ev.bind (a := true) (Ev.of (fun k => skiarearef31_SameInts.mono _ _ k) (k := 30) (by decide +kernel)) ?_
  simp only [if_true]
  refine Ev.bind (a := 1) (Ev.of (fun k => rides_Upto.mono _ _ k) (k := 30) (by decide +kernel)) ?_
  simp only [if_true]
  refine Ev.bind (a := 4) (Ev.of (fun k => rides_Upto.mono _ _ k) (k := 30) (by decide +kernel)) ?_
  simp only [if_true]
  refine Ev.bind (a := []) (Ev.of (fun k => rides_Gaps.mono _ _ k) (k := 30) (by decide +kernel)) ?_
  simp only [List.length_nil, Int.natCast_zero, if_true, Bool.false_eq_true, if_false]
  refine Ev.bind (Same_self [rd_ 1 10, rd_ 2 20, rd_ 3 30, rd_ 4 40] (by simp)) ?_
  simp only [if_true]
  refine Ev.bind (a := []) (Ev.of (fun k => rides_Gaps.mono _ _ k) (k := 30) (by decide +kernel)) ?_
  simp only [List.length_nil, Int.natCast_zero, if_true]
  refine Ev.bind (a := 0) (Ev.of (fun k => rides_Upto.mono _ _ k) (k := 30) (by decide +kernel)) ?_
  simp only [if_true]
  have hr := Right_ev [rd_ 1 10, rd_ 2 20, rd_ 3 30, rd_ 4 40]
  rw [rightS_zero.2 ⟨by simp, s5⟩] at hr
  refine Ev.bind hr ?_
  exact Ev.const _
end Go.Proofs.Ytgohhekihfilbaa.Rl
