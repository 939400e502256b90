/- Rides: Merge and Add of the reference. -/
import Derived.Test.YtgohhekihfilbaaMx8
import Derived.Test.YtgohhekihfilbaaMx9
import Derived.Test.YtgohhekihfilbaaRb
namespace Go.Proofs.Ytgohhekihfilbaa.Rl
open Go.RowKit Go.Proofs.Ytgohhekihfilbaa.M Go.Proofs.YtgohhekihfilbaaW.PrintWords Go.Proofs.YtgohhekihfilbaaW.PrintLast Go.Proofs.YtgohhekihfilbaaW.PrintMore
set_option linter.unusedSimpArgs false

/-! ### The reference's Merge -/
/-- What is returned, once all is laid behind out. -/
def fin (out : List S28) : Option (List S28) → List S28 × Int
  | none => ([], 15)
  | some m => if ((out ++ m).length : Int) > 2000 then ([], 9) else (out ++ m, 0)
theorem fin_cons (out : List S28) (x : S28) (o : Option (List S28)) : fin out (o.map (x :: ·)) = fin (out ++ [x]) o := by
  cases o with
  | none => rfl
  | some m => simp [fin]
theorem mg_nil (a : List S28) : mg a [] = some a := by cases a <;> rw [mg]
theorem rMerge_go (a b : List S28) (hab : a.length + b.length ≤ 1000000) (d : Nat) : ∀ (i j : Nat) (out : List S28), (a.length - i) + (b.length - j) = d → i ≤ a.length → j ≤ b.length → out.length ≤ i + j →
    Ev (fun k => skiarearef31_Merge.l0 k a b out (i : Int) (j : Int)) (fin out (mg (a.drop i) (b.drop j))) := by
  induction d using Nat.strongRecOn with
  | _ d ih =>
  intro i j out hd hi hj ho
  have goA : i < a.length → Ev (fun k => skiarearef31_Merge.l0 k a b (out ++ [a[i]!]) ((i + 1 : Nat) : Int) (j : Int)) (fin (out ++ [a[i]!]) (mg (a.drop (i + 1)) (b.drop j))) := fun hlt => ih _ (by omega) (i + 1) j (out ++ [a[i]!]) rfl (by omega) hj (by simp; omega)
  have goB : j < b.length → Ev (fun k => skiarearef31_Merge.l0 k a b (out ++ [b[j]!]) (i : Int) ((j + 1 : Nat) : Int)) (fin (out ++ [b[j]!]) (mg (a.drop i) (b.drop (j + 1)))) := fun hlt => ih _ (by omega) i (j + 1) (out ++ [b[j]!]) rfl hi (by omega) (by simp; omega)
  have goAB : i < a.length → j < b.length → Ev (fun k => skiarearef31_Merge.l0 k a b (out ++ [a[i]!]) ((i + 1 : Nat) : Int) ((j + 1 : Nat) : Int)) (fin (out ++ [a[i]!]) (mg (a.drop (i + 1)) (b.drop (j + 1)))) := fun h1 h2 => ih _ (by omega) (i + 1) (j + 1) (out ++ [a[i]!]) rfl (by omega) (by omega) (by simp; omega)
  clear ih
  refine Ev.at1 ?_
  simp only [skiarearef31_Merge.l0]
  by_cases hA : i < a.length
  · simp only [if_pos (show (i : Int) < (a.length : Int) by omega)]
    have ga : a[i]! = a[i] := by simp [hA]
    have goA := goA hA
    rw [ga] at goA
    rw [List.drop_eq_getElem_cons hA]
    refine Ev.at1 ?_
    simp only [skiarearef31_Merge.j1, if_true]
    by_cases hB : j < b.length
    · have gb : b[j]! = b[j] := by simp [hB]
      have goB := goB hB
      have goAB := goAB hA hB
      rw [gb] at goB
      rw [ga] at goAB
      rw [List.drop_eq_getElem_cons hB]
      rw [List.drop_eq_getElem_cons hB] at goA
      rw [List.drop_eq_getElem_cons hA] at goB
      simp only [if_neg (show ¬ ((j : Int) ≥ (b.length : Int)) by omega), if_pos (show (i : Int) < (a.length : Int) by omega), if_pos (show (0 : Int) ≤ (i : Int) by omega), if_pos (show (0 : Int) ≤ (j : Int) by omega), if_pos (show (j : Int) < (b.length : Int) by omega), rd_at hA, rd_at hB, before_eq, Option.bind_some]
      refine Ev.at1 ?_
      rw [mg]
      by_cases h1 : lt a[i] b[j]
      · simp only [skiarearef31_Merge.j2, h1, decide_true, if_true, if_pos (show (i : Int) < (a.length : Int) by omega), if_pos (show (0 : Int) ≤ (i : Int) by omega), rd_at hA, if_pos (show out.length < 2513169434916 by omega), S28.eta]
        rw [w64 (n := (i : Int) + 1) (by omega) (by omega), fin_cons]
        exact goA
      · simp only [skiarearef31_Merge.j2, h1, decide_false, Bool.false_eq_true, if_false, if_neg (show ¬ ((i : Int) ≥ (a.length : Int)) by omega), if_pos (show (i : Int) < (a.length : Int) by omega), if_pos (show (0 : Int) ≤ (i : Int) by omega), if_pos (show (0 : Int) ≤ (j : Int) by omega), if_pos (show (j : Int) < (b.length : Int) by omega), rd_at hA, rd_at hB, before_eq, Option.bind_some]
        refine Ev.at1 ?_
        by_cases h2 : lt b[j] a[i]
        · simp only [skiarearef31_Merge.j3, h2, decide_true, if_true, if_pos (show (0 : Int) ≤ (j : Int) by omega), if_pos (show (j : Int) < (b.length : Int) by omega), rd_at hB, if_pos (show out.length < 2513169434916 by omega), S28.eta]
          rw [w64 (n := (j : Int) + 1) (by omega) (by omega), fin_cons]
          exact goB
        · simp only [skiarearef31_Merge.j3, h2, decide_false, Bool.false_eq_true, if_false, if_pos (show (i : Int) < (a.length : Int) by omega), if_pos (show (0 : Int) ≤ (i : Int) by omega), if_pos (show (0 : Int) ≤ (j : Int) by omega), if_pos (show (j : Int) < (b.length : Int) by omega), rd_at hA, rd_at hB, ne_s28]
          by_cases h3 : a[i] = b[j]
          · simp only [h3, ne_eq, not_true, if_false, if_pos (show out.length < 2513169434916 by omega), S28.eta]
            rw [w64 (n := (i : Int) + 1) (by omega) (by omega), w64 (n := (j : Int) + 1) (by omega) (by omega), fin_cons]
            rw [h3] at goAB
            exact goAB
          · simp only [ne_eq, h3, not_false_eq_true, if_true]
            exact Ev.const _
    · rw [List.drop_of_length_le (show b.length ≤ j by omega)]
      rw [List.drop_of_length_le (show b.length ≤ j by omega), mg_nil] at goA
      simp only [if_pos (show (j : Int) ≥ (b.length : Int) by omega)]
      refine Ev.at1 ?_
      simp only [skiarearef31_Merge.j2, if_true, if_pos (show (i : Int) < (a.length : Int) by omega), if_pos (show (0 : Int) ≤ (i : Int) by omega), rd_at hA, if_pos (show out.length < 2513169434916 by omega), S28.eta]
      rw [w64 (n := (i : Int) + 1) (by omega) (by omega), mg_nil, show some (a[i] :: a.drop (i + 1)) = (some (a.drop (i + 1))).map (a[i] :: ·) from rfl, fin_cons]
      exact goA
  · simp only [if_neg (show ¬ ((i : Int) < (a.length : Int)) by omega)]
    rw [List.drop_of_length_le (show a.length ≤ i by omega), show mg [] (b.drop j) = some (b.drop j) by rw [mg]]
    refine Ev.at1 ?_
    by_cases hB : j < b.length
    · have gb : b[j]! = b[j] := by simp [hB]
      have goB := goB hB
      rw [gb, List.drop_of_length_le (show a.length ≤ i by omega), show mg [] (b.drop (j + 1)) = some (b.drop (j + 1)) by rw [mg]] at goB
      simp only [skiarearef31_Merge.j1, if_pos (show (j : Int) < (b.length : Int) by omega), decide_true, if_true, if_neg (show ¬ ((j : Int) ≥ (b.length : Int)) by omega), if_neg (show ¬ ((i : Int) < (a.length : Int)) by omega), show decide ((j : Int) < (b.length : Int)) = true from decide_eq_true (by omega)]
      refine Ev.at1 ?_
      simp only [skiarearef31_Merge.j2, Bool.false_eq_true, if_false, if_pos (show (i : Int) ≥ (a.length : Int) by omega)]
      refine Ev.at1 ?_
      simp only [skiarearef31_Merge.j3, if_true, if_pos (show (0 : Int) ≤ (j : Int) by omega), if_pos (show (j : Int) < (b.length : Int) by omega), rd_at hB, if_pos (show out.length < 2513169434916 by omega), S28.eta]
      rw [w64 (n := (j : Int) + 1) (by omega) (by omega), List.drop_eq_getElem_cons hB, show some (b[j] :: b.drop (j + 1)) = (some (b.drop (j + 1))).map (b[j] :: ·) from rfl, fin_cons]
      exact goB
    · rw [List.drop_of_length_le (show b.length ≤ j by omega)]
      simp only [skiarearef31_Merge.j1, show decide ((j : Int) < (b.length : Int)) = false from decide_eq_false (by omega), Bool.false_eq_true, if_false]
      by_cases hl : (out.length : Int) > 2000
      · simp only [if_pos hl]
        refine Ev.congr (f := fun _ => some ([], 9)) (fun _ => rfl) ?_
        rw [fin, List.append_nil, if_pos hl]
        exact Ev.const _
      · simp only [if_neg hl]
        rw [fin, List.append_nil, if_neg hl]
        exact Ev.const _
theorem rMerge_ev (a b : List S28) (hab : a.length + b.length ≤ 1000000) : Ev (fun k => skiarearef31_Merge.f k a b) (mres a b) := by
  have h := rMerge_go a b hab _ 0 0 [] rfl (by omega) (by omega) (by simp)
  have e : mres a b = fin [] (mg (a.drop 0) (b.drop 0)) := by
    rw [List.drop_zero, List.drop_zero, mres]
    cases mg a b <;> simp [fin]
  rw [e]
  exact h

theorem rAdd_ev {l : List S28} (hl : l.length ≤ 100000) (x : S28) : Ev (fun k => skiarearef31_Add.f k l x.f0 x.f1 x.f2 x.f3 x.f4 x.f5 x.f6) (addS l x) := by
  unfold skiarearef31_Add.f addS
  simp only [ranges_eq, Option.bind_some, S28.eta]
  by_cases hb : bad x
  · simp only [hb, not_true, decide_false, Bool.false_eq_true, if_false, if_true]
    exact Ev.const _
  · simp only [hb, not_false_eq_true, decide_true, if_true, if_false]
    refine Ev.bind (rMerge_ev l [x] (by simp; omega)) ?_
    by_cases h0 : (mres l [x]).2 = 0
    · simp only [h0, if_true]
      exact Ev.const _
    · simp only [h0, if_false]
      exact Ev.const _
end Go.Proofs.Ytgohhekihfilbaa.Rl
