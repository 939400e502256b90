/- RidesFull: a store never has more than MaxRides rides. -/
import Derived.Test.YtgohhekihfilbaaMx10
import Derived.Test.YtgohhekihfilbaaGood
import Derived.Test.YtgohhekihfilbaaRn
namespace Go.Proofs.Ytgohhekihfilbaa.Pure
open Go.RowKit Go.Proofs.Ytgohhekihfilbaa.M Go.Proofs.YtgohhekihfilbaaW.PrintWords Go.Proofs.YtgohhekihfilbaaW.PrintLast Go.Proofs.YtgohhekihfilbaaW.PrintMore Go.Proofs.Ytgohhekihfilbaa.Gd Go.Proofs.Ytgohhekihfilbaa.Rl
theorem RidesFull : ∀ (a0 : Int) (x1 : S28), (Lit.int .u16 a0).wf = true → good28 x1 → ∃ k, skiarealaw31_RidesFull.f k a0 x1.f0 x1.f1 x1.f2 x1.f3 x1.f4 x1.f5 x1.f6 = some true := by
  intro a0 x hw _
  have h0 : 0 ≤ a0 ∧ a0 ≤ 65535 := by
    simp [Lit.wf, IntKind.min, IntKind.max, IntKind.signed, IntKind.bits] at hw
    omega
  refine Ev.rounds (g := fun k => skiarealaw31_RidesFull.f k a0 x.f0 x.f1 x.f2 x.f3 x.f4 x.f5 x.f6) ?_
  unfold skiarealaw31_RidesFull.f
  refine Ev.bind alive_ev ?_
  simp only [if_true]
  obtain ⟨s, hs⟩ : ∃ s, s = wrap64 (1 + (Int.tmod (wrap64 a0) 2001)) := ⟨_, rfl⟩
  have hs1 : 1 ≤ s ∧ s ≤ 2001 := by
    rw [hs, w64 (n := a0) (by omega) (by omega), Int.tmod_eq_emod_of_nonneg h0.1, w64 (by omega) (by omega)]
    omega
  rw [← hs]
  -- the store is filled, and then the same is asked of both
  have fill : ∀ (d : Nat) (l : List S28) (n : Int), 2000 - l.length = d → l.length ≤ 2000 → Rl.store l → (∀ y ∈ l, y.f0 = 2 ∧ y.f1 < n ∧ y.f1 ≠ s) → 1 ≤ n → n ≤ (l.length : Int) + 2 → (n ≤ s → n = (l.length : Int) + 1) →
      Ev (fun k => skiarealaw31_RidesFull.l0 k s l n x.f0 x.f1 x.f2 x.f3 x.f4 x.f5 x.f6) true := by
    intro d
    induction d with
    | zero =>
      intro l n hd hl hst hal h1 h2 h3
      refine Ev.at1 ?_
      simp only [skiarealaw31_RidesFull.l0_succ, if_neg (show ¬ ((l.length : Int) < 2000) by omega), ride_eq, Option.bind_some]
      have hsk : ¬ bad (⟨2, s, 5, s, 3, 9, s⟩ : S28) := by unfold bad; simp only; omega
      refine Ev.bind (Add_ev hst (by omega) x) ?_
      refine Ev.bind (rAdd_ev (by omega) x) ?_
      refine Ev.bind (Merge_ev hst (store_one hsk) (by omega) (by simp)) ?_
      refine Ev.bind (rMerge_ev l [⟨2, s, 5, s, 3, 9, s⟩] (by simp; omega)) ?_
      refine Ev.bind (Same_self _ (by have := addS_len l x; omega)) ?_
      simp only [if_true, beq_self_eq_true]
      refine Ev.bind (Same_self _ (by have := mres_len l [⟨2, s, 5, s, 3, 9, s⟩]; omega)) ?_
      simp only [if_true]
      exact Ev.const _
    | succ d ih =>
      intro l n hd hl hst hal h1 h2 h3
      have put : ∀ n : Int, 1 ≤ n → n ≤ (l.length : Int) + 2 → n ≠ s → (n + 1 ≤ s → n = (l.length : Int) + 1) → (∀ y ∈ l, y.f0 = 2 ∧ y.f1 < n ∧ y.f1 ≠ s) → Ev (fun k => skiarealaw31_RidesFull.l0 k s l n x.f0 x.f1 x.f2 x.f3 x.f4 x.f5 x.f6) true := by
        intro n h1 h2 hne h3 hal
        refine Ev.at1 ?_
        simp only [skiarealaw31_RidesFull.l0_succ, if_pos (show (l.length : Int) < 2000 by omega), if_neg hne, ride_eq, Option.bind_some, if_pos (show l.length < 2513169434916 by omega)]
        rw [w64 (n := n + 1) (by omega) (by omega)]
        refine ih (l ++ [⟨2, n, 5, n, 3, 9, n⟩]) (n + 1) (by simp; omega) (by simp; omega) ⟨?_, ?_⟩ ?_ (by omega) (by simp; omega) (fun hn => by simp; have := h3 hn; omega)
        · intro y hy
          rw [List.mem_append, List.mem_singleton] at hy
          rcases hy with hy | rfl
          · exact hst.1 y hy
          · unfold bad; simp only; omega
        · rw [List.pairwise_append]
          refine ⟨hst.2, List.pairwise_singleton _ _, ?_⟩
          intro u hu v hv
          rw [List.mem_singleton] at hv
          subst hv
          have := hal u hu
          exact .inr ⟨this.1, this.2.1⟩
        · intro y hy
          rw [List.mem_append, List.mem_singleton] at hy
          rcases hy with hy | rfl
          · have := hal y hy
            exact ⟨this.1, by omega, this.2.2⟩
          · exact ⟨rfl, by simp only; omega, hne⟩
      by_cases hne : n = s
      · refine Ev.at1 ?_
        simp only [skiarealaw31_RidesFull.l0_succ, if_pos (show (l.length : Int) < 2000 by omega), if_pos hne]
        rw [w64 (n := n + 1) (by omega) (by omega)]
        have := h3 (by omega)
        exact put (n + 1) (by omega) (by omega) (by omega) (by omega) (fun y hy => by have := hal y hy; exact ⟨this.1, by omega, this.2.2⟩)
      · exact put n h1 h2 hne (fun hn => h3 (by omega)) hal
  exact fill 2000 [] 1 (by simp) (by simp) ⟨by simp, List.Pairwise.nil⟩ (by simp) (by omega) (by simp) (by simp)
end Go.Proofs.Ytgohhekihfilbaa.Pure
