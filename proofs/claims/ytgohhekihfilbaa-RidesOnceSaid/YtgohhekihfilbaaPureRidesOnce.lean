/- RidesOnce: a store has a ride once, and adding it is merging it. -/
import Derived.Test.YtgohhekihfilbaaMx12
import Derived.Test.YtgohhekihfilbaaGood
import Derived.Test.YtgohhekihfilbaaRb
namespace Go.Proofs.Ytgohhekihfilbaa.Pure
open Go.RowKit Go.Proofs.Ytgohhekihfilbaa.M Go.Proofs.YtgohhekihfilbaaW.PrintWords Go.Proofs.YtgohhekihfilbaaW.PrintLast Go.Proofs.YtgohhekihfilbaaW.PrintMore Go.Proofs.Ytgohhekihfilbaa.Gd Go.Proofs.Ytgohhekihfilbaa.Rl
theorem RidesOnce : ∀ (l0 : List (S28)) (x1 : S28), l0.length * 56 ≤ 140737488351232 → (l0.length ≤ maxLen ∧ ∀ y ∈ l0, good28 y) → good28 x1 → ∃ k, skiarealaw31_RidesOnce.f k l0 x1.f0 x1.f1 x1.f2 x1.f3 x1.f4 x1.f5 x1.f6 = some true := by
  intro l x _ _ _
  refine Ev.rounds (g := fun k => skiarealaw31_RidesOnce.f k l x.f0 x.f1 x.f2 x.f3 x.f4 x.f5 x.f6) ?_
  unfold skiarealaw31_RidesOnce.f
  refine Ev.bind alive_ev ?_
  simp only [if_true]
  obtain ⟨b1, hb1, hs1⟩ := right_ev l
  refine Ev.bind hb1 ?_
  cases b1 with
  | false => simp only [Bool.false_eq_true, if_false]; exact Ev.const _
  | true =>
  obtain ⟨hl, sl⟩ := hs1.1 rfl
  clear hs1 hb1
  simp only [if_true]
  refine Ev.bind (Add_ev sl (by omega) x) ?_
  simp only [S28.eta]
  refine Ev.bind (rRight_ev [x]) ?_
  by_cases hb : bad x
  · have h1 : rightS [x] = 2 := by simp [rightS, rgo, hb]
    have h2 : addS l x = ([], false, 2) := by rw [addS, if_pos hb]
    rw [h1, h2]
    simp only [show ¬ ((2 : Int) = 0) by decide, if_false, if_true, Bool.false_eq_true, List.length_nil, Int.natCast_zero, beq_self_eq_true]
    exact Ev.const _
  · have sx := store_one hb
    rw [rightS_zero.2 ⟨by simp, sx⟩]
    simp only [if_true]
    refine Ev.bind (Merge_ev sl sx (by omega) (by simp)) ?_
    by_cases hc : conf l [x]
    · have h1 := mres_none sl.2 sx.2 hc
      have h2 : addS l x = ([], false, 15) := by rw [addS, if_neg hb, h1]; simp
      rw [h1, h2]
      simp only [if_true]
      refine Ev.bind (Same_self [] (by simp)) ?_
      refine Ev.at1 ?_
      simp only [skiarealaw31_RidesOnce.j0, Bool.not_true, Bool.false_eq_true, if_false, show ¬ ((15 : Int) = 0) by decide, Bool.not_false]
      exact Ev.const _
    · obtain ⟨m, e1, p1, q1, l1, l2⟩ := mres_some sl.2 sx.2 hc (by simp; omega)
      have h2 : addS l x = (m, decide ((m.length : Int) > (l.length : Int)), 0) := by rw [addS, if_neg hb, e1]; simp
      have sm := store_of p1 q1 sl sx
      have hxm : x ∈ m := (q1 x).2 (.inr (by simp))
      simp only [List.length_singleton] at l1
      -- adding it again
      have h3 : addS m x = (m, false, 0) := by
        have hc2 : ¬ conf m [x] := by
          rintro ⟨u, hu, v, hv, e, n⟩
          rw [List.mem_singleton] at hv
          subst hv
          exact n (store_uniq p1 hu hxm e)
        obtain ⟨m', e2, p2, q2, _⟩ := mres_some p1 sx.2 hc2 (by simp; omega)
        have : m' = m := sorted_ext p2 p1 (fun z => by
          rw [q2 z, List.mem_singleton]
          exact ⟨fun h => h.elim id (fun h => h ▸ hxm), .inl⟩)
        subst this
        rw [addS, if_neg hb, e2]
        simp
      -- how many more
      have hlen : m.length = if x ∈ l then l.length else l.length + 1 := by
        by_cases hx : x ∈ l
        · rw [if_pos hx, sorted_ext p1 sl.2 (fun z => by rw [q1 z, List.mem_singleton]; exact ⟨fun h => h.elim id (fun h => h ▸ hx), .inl⟩)]
        · rw [if_neg hx]
          have hp : m.Perm (x :: l) := (List.perm_ext_iff_of_nodup (nodup_of p1) (List.nodup_cons.2 ⟨hx, nodup_of sl.2⟩)).2 (fun z => by rw [q1 z, List.mem_singleton, List.mem_cons, or_comm])
          rw [hp.length_eq, List.length_cons]
      have hadd : decide ((m.length : Int) > (l.length : Int)) = ((m.length : Int) == (wrap64 ((l.length : Int) + 1))) := by
        rw [w64 (by omega) (by omega)]
        by_cases hx : x ∈ l
        · rw [if_pos hx] at hlen
          rw [hlen, decide_eq_false (by omega)]
          symm
          rw [beq_eq_false_iff_ne]
          omega
        · rw [if_neg hx] at hlen
          rw [hlen, decide_eq_true (by omega)]
          symm
          rw [beq_iff_eq]
          omega
      rw [e1, h2]
      simp only [if_true]
      refine Ev.bind (Same_self m (by omega)) ?_
      refine Ev.at1 ?_
      simp only [skiarealaw31_RidesOnce.j0, Bool.not_true, Bool.false_eq_true, if_false, if_true]
      refine Ev.bind (Add_ev sm (by omega) x) ?_
      rw [h3]
      -- it is there once
      have hnd := nodup_of p1
      have cnt : ∀ (d : Nat) (i : Nat) (n : Int), m.length - i = d → i ≤ m.length → n = (if x ∈ m.take i then 1 else 0) →
          Ev (fun k => skiarealaw31_RidesOnce.l0 k l m (decide ((m.length : Int) > (l.length : Int))) m false 0 n (i : Int) x.f0 x.f1 x.f2 x.f3 x.f4 x.f5 x.f6) true := by
        intro d
        induction d with
        | zero =>
          intro i n hd hi hn
          rw [List.take_of_length_le (by omega), if_pos hxm] at hn
          refine Ev.at1 ?_
          simp only [skiarealaw31_RidesOnce.l0, if_neg (show ¬ ((i : Int) < (m.length : Int)) by omega), if_pos hn, hadd, beq_self_eq_true, if_true, Bool.false_eq_true, if_false]
          refine Ev.bind (Same_self m (by omega)) ?_
          exact Ev.const _
        | succ d ih =>
          intro i n hd hi hn
          have hlt : i < m.length := by omega
          refine Ev.at1 ?_
          simp only [skiarealaw31_RidesOnce.l0, if_pos (show (i : Int) < (m.length : Int) by omega), if_pos (show (0 : Int) ≤ (i : Int) by omega), rd_at hlt, eq_s28]
          have htk : m.take (i + 1) = m.take i ++ [m[i]] := List.take_succ_eq_append_getElem hlt
          have hdr : m = m.take i ++ m[i] :: m.drop (i + 1) := by rw [← List.drop_eq_getElem_cons hlt, List.take_append_drop]
          rw [w64 (n := (i : Int) + 1) (by omega) (by omega)]
          by_cases e : m[i] = x
          · have hni : x ∉ m.take i := by
              intro hin
              rw [hdr, List.nodup_append] at hnd
              exact hnd.2.2 x hin m[i] List.mem_cons_self e.symm
            rw [if_neg hni] at hn
            subst hn
            simp only [e, if_true]
            rw [w64 (by omega) (by omega)]
            have hin : x ∈ m.take (i + 1) := by rw [htk, e]; simp
            exact ih (i + 1) (0 + 1) (by omega) (by omega) (by rw [if_pos hin]; rfl)
          · simp only [e, if_false]
            refine ih (i + 1) n (by omega) (by omega) ?_
            rw [hn, htk]
            congr 1
            rw [List.mem_append, List.mem_singleton]
            exact propext ⟨.inl, fun h => h.elim id (fun h => absurd h.symm e)⟩
      exact cnt m.length 0 0 (by omega) (by omega) (by simp)
end Go.Proofs.Ytgohhekihfilbaa.Pure
