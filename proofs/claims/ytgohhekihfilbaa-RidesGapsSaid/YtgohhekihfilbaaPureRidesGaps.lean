/- RidesGaps: Upto ends before the first gap, and with the missing rides there are no gaps. -/
import Derived.Test.YtgohhekihfilbaaMx13
import Derived.Test.YtgohhekihfilbaaGood
import Derived.Test.YtgohhekihfilbaaRg
namespace Go.Proofs.Ytgohhekihfilbaa.Pure
open Go.RowKit Go.Proofs.Ytgohhekihfilbaa.M Go.Proofs.YtgohhekihfilbaaW.PrintWords Go.Proofs.YtgohhekihfilbaaW.PrintLast Go.Proofs.YtgohhekihfilbaaW.PrintMore Go.Proofs.Ytgohhekihfilbaa.Gd Go.Proofs.Ytgohhekihfilbaa.Rl
set_option linter.unusedSimpArgs false
set_option linter.unusedVariables false
theorem sub_len {α : Type} [DecidableEq α] : ∀ {a b : List α}, a.Nodup → (∀ x ∈ a, x ∈ b) → a.length ≤ b.length := by
  intro a
  induction a with
  | nil => intro b _ _; simp
  | cons x a ih =>
    intro b hn h
    rw [List.nodup_cons] at hn
    have hx := h x (by simp)
    have := ih (b := b.erase x) hn.2 (fun y hy => (List.mem_erase_of_ne (by rintro rfl; exact hn.1 hy)).2 (h y (by simp [hy])))
    rw [List.length_erase_of_mem hx] at this
    have : 0 < b.length := List.length_pos_of_mem hx
    simp only [List.length_cons]
    omega
theorem store_nodup {l : List S28} (h : Rl.store l) : l.Nodup := by
  rw [List.nodup_iff_pairwise_ne]
  exact h.2.imp (fun h e => by subst e; exact Rl.lt_irrefl _ h)
/-- A ride of a number that the gate has not yet is added. -/
theorem add_new {l : List S28} (hs : Rl.store l) {x : S28} (hb : ¬ Rl.bad x) (hl : l.length ≤ 1000) (hn : ¬ hasQ l x.f0 x.f1) :
    ∃ m, Rl.store m ∧ m.length ≤ l.length + 1 ∧ (∀ y, y ∈ m ↔ y ∈ l ∨ y = x) ∧ addS l x = (m, true, 0) := by
  have hc : ¬ conf l [x] := by
    rintro ⟨y, hy, z, hz, e, _⟩
    rw [List.mem_singleton.1 hz] at e
    unfold ky at e
    injection e with e0 e1
    exact hn ⟨y, hy, e0, e1⟩
  obtain ⟨m, e, h1, h2, h3, h4⟩ := mres_some hs.2 (store_one hb).2 hc (by simp; omega)
  have hm : ∀ y, y ∈ m ↔ y ∈ l ∨ y = x := fun y => by rw [h2]; simp
  have hlt : l.length < m.length := by
    have := sub_len (a := x :: l) (b := m) (List.nodup_cons.2 ⟨fun hx => hn ⟨x, hx, rfl, rfl⟩, store_nodup hs⟩) (fun y hy => by
      rcases List.mem_cons.1 hy with rfl | hy
      · exact (hm y).2 (.inr rfl)
      · exact (hm y).2 (.inl hy))
    rw [List.length_cons] at this
    omega
  refine ⟨m, store_of h1 h2 hs (store_one hb), by simpa using h3, hm, ?_⟩
  unfold addS
  rw [if_neg hb, e]
  simp only [if_true]
  rw [decide_eq_true (by omega)]
section
variable (l : List S28) (g M : Int) (G : List Int)
theorem tail_go (hs : Rl.store l) (hl : l.length ≤ 300) (hg1 : 1 ≤ g) (hg2 : g ≤ 9999) (hM : Gr l g M) (hG : GapS l g M G) (d : Nat) : ∀ (i : Nat) (x : List S28), G.length - i = d → i ≤ G.length → Rl.store x → x.length ≤ l.length + i → (∀ s, hasQ x g s ↔ hasQ l g s ∨ s ∈ G.take i) →
    Ev (fun k => skiarealaw31_RidesGaps.l1 k g M G x (i : Int)) true := by
  have hlen := hG.len
  have hMr := hM.rng hs
  induction d with
  | zero =>
    intro i x hd hi hx hxl hq
    have hi' : i = G.length := by omega
    rw [List.take_of_length_le (by omega)] at hq
    refine Ev.at1 ?_
    simp only [skiarealaw31_RidesGaps.l1, if_neg (show ¬ ((i : Int) < (G.length : Int)) by omega)]
    by_cases h100 : (G.length : Int) = 100
    · simp only [h100, if_true]
      exact Ev.const _
    · simp only [h100, if_false]
      have hall := hG.all.elim id (fun e => by omega)
      have hxM : Gr x g M := by
        refine ⟨?_, fun s h => ?_⟩
        · rcases hM.at_ with ⟨h0, h1⟩ | h1
          · refine .inl ⟨h0, fun s h => ?_⟩
            rcases (hq s).1 h with h | h
            · exact h1 s h
            · have := hG.rng s h; omega
          · exact .inr ((hq M).2 (.inl h1))
        · rcases (hq s).1 h with h | h
          · exact hM.le s h
          · have := hG.rng s h; omega
      have hfull : ∀ s, 1 ≤ s → s < M → hasQ x g s := fun s h1 h2 => by
        by_cases h3 : hasQ l g s
        · exact (hq s).2 (.inl h3)
        · exact (hq s).2 (.inr (hall s h1 h2 h3))
      obtain ⟨u, hu, _, heu⟩ := Upto_spec x hx (by omega) g
      have hum : UpS x g M := by
        refine ⟨hMr.1, fun s h1 h2 => ?_, fun h => by have := hxM.le _ h; omega⟩
        by_cases e : s = M
        · subst e
          rcases hxM.at_ with ⟨h0, _⟩ | h3
          · omega
          · exact h3
        · exact hfull s h1 (by omega)
      have := hu.uniq hum
      subst this
      obtain ⟨r, hr, her⟩ := Gaps_spec x hx (by omega) hxM
      have hr0 : r = [] := by
        rcases r with _ | ⟨n, r⟩
        · rfl
        · have := hr.rng n (by simp)
          exact absurd (hfull n this.1 this.2.1) this.2.2
      subst hr0
      refine Ev.bind heu ?_
      simp only [if_true]
      refine Ev.bind her ?_
      exact Ev.const _
  | succ d ih =>
    intro i x hd hi hx hxl hq
    have hlt : i < G.length := by omega
    have hn := hG.rng G[i] (List.getElem_mem hlt)
    have hfresh : ¬ hasQ x g G[i] := by
      intro h
      rcases (hq _).1 h with h | h
      · exact hn.2.2 h
      · obtain ⟨j, hj, e⟩ := List.getElem_of_mem h
        rw [List.length_take] at hj
        rw [List.getElem_take] at e
        have := List.pairwise_iff_getElem.1 hG.ord j i (by omega) hlt (by omega)
        omega
    have hb : ¬ Rl.bad (⟨g, G[i], 5, G[i], 3, 9, 7⟩ : S28) := by
      unfold Rl.bad
      simp only
      omega
    obtain ⟨m, hm, hml, hmem, hadd⟩ := add_new hx hb (by omega) hfresh
    have hA := Add_ev hx (by omega) (⟨g, G[i], 5, G[i], 3, 9, 7⟩ : S28)
    rw [hadd] at hA
    have ih' := ih (i + 1) m (by omega) (by omega) hm (by omega) (fun s => by
      rw [List.take_succ_eq_append_getElem hlt, List.mem_append, List.mem_singleton, ← or_assoc, ← hq s]
      constructor
      · rintro ⟨y, hy, h0, h1⟩
        rcases (hmem y).1 hy with hy | rfl
        · exact .inl ⟨y, hy, h0, h1⟩
        · exact .inr h1.symm
      · rintro (⟨y, hy, h0, h1⟩ | rfl)
        · exact ⟨y, (hmem y).2 (.inl hy), h0, h1⟩
        · exact ⟨_, (hmem _).2 (.inr rfl), rfl, rfl⟩)
    have step : Ev (fun k => skiarealaw31_RidesGaps.j4 k g M G x (i : Int) false) true := by
      refine Ev.at1 ?_
      simp only [skiarealaw31_RidesGaps.j4, Bool.false_eq_true, if_false, if_pos (show (0 : Int) ≤ (i : Int) by omega), if_pos (show (i : Int) < (G.length : Int) by omega), ride_eq, Option.bind_some]
      rw [show rd G (i : Int) = G[i] by simp [rd, hlt]]
      refine Ev.bind hA ?_
      simp only [if_true]
      rw [w64 (n := (i : Int) + 1) (by omega) (by omega)]
      exact ih'
    refine Ev.at1 ?_
    simp only [skiarealaw31_RidesGaps.l1, if_pos (show (0 : Int) ≤ (i : Int) by omega), if_pos (show (i : Int) < (G.length : Int) by omega)]
    rw [show rd G (i : Int) = G[i] by simp [rd, hlt]]
    simp only [if_neg (show ¬ (G[i] ≥ M) by omega)]
    by_cases h0 : i = 0
    · subst h0
      simp only [Int.natCast_zero, gt_iff_lt, Int.lt_irrefl, if_false]
      exact step
    · rw [w64 (n := (i : Int) - 1) (by omega) (by omega), show (i : Int) - 1 = ((i - 1 : Nat) : Int) by omega]
      simp only [if_pos (show (i : Int) > 0 by omega), if_pos (show (0 : Int) ≤ ((i - 1 : Nat) : Int) by omega), if_pos (show ((i - 1 : Nat) : Int) < (G.length : Int) by omega)]
      rw [show rd G ((i - 1 : Nat) : Int) = G[i - 1]'(by omega) by simp [rd, show i - 1 < G.length by omega]]
      have := List.pairwise_iff_getElem.1 hG.ord (i - 1) i (by omega) hlt (by omega)
      rw [decide_eq_false (by omega)]
      exact step
theorem great_go (hs : Rl.store l) (hl : l.length ≤ 300) (hg1 : 1 ≤ g) (hg2 : g ≤ 9999) (d : Nat) : ∀ (i : Nat) (m : Int), l.length - i = d → i ≤ l.length → Gr (l.take i) g m →
    Ev (fun k => skiarealaw31_RidesGaps.l0 k l g m (i : Int)) true := by
  induction d with
  | zero =>
    intro i m hd hi hm
    rw [List.take_of_length_le (by omega)] at hm
    obtain ⟨G, hG, heG⟩ := Gaps_spec l hs (by omega) hm
    obtain ⟨u, hu, _, heu⟩ := Upto_spec l hs (by omega) g
    have hlen := hG.len
    have hmr := hm.rng hs
    refine Ev.at1 ?_
    simp only [skiarealaw31_RidesGaps.l0, if_neg (show ¬ ((i : Int) < (l.length : Int)) by omega)]
    refine Ev.bind heG (Ev.bind heu ?_)
    rcases G with _ | ⟨n, G⟩
    · have hall : ∀ s, 1 ≤ s → s < m → hasQ l g s := fun s h1 h2 => by
        by_cases h3 : hasQ l g s
        · exact h3
        · have := hG.all.elim (fun h => h s h1 h2 h3) (fun e => by simp at e)
          simp at this
      have hum : UpS l g m := by
        refine ⟨hmr.1, fun s h1 h2 => ?_, fun h => by have := hm.le _ h; omega⟩
        by_cases e : s = m
        · subst e
          rcases hm.at_ with ⟨h0, _⟩ | h3
          · omega
          · exact h3
        · exact hall s h1 (by omega)
      have := hu.uniq hum
      subst this
      simp only [List.length_nil, Int.natCast_zero, if_true, beq_self_eq_true]
      exact Ev.const _
    · have hn := hG.rng n (by simp)
      have hun : u = n - 1 := by
        refine hu.uniq ⟨by omega, fun s h1 h2 => ?_, by rw [show n - 1 + 1 = n by omega]; exact hn.2.2⟩
        by_cases h3 : hasQ l g s
        · exact h3
        · have h4 := hG.down n (by simp) s h1 (by omega) h3
          rcases List.mem_cons.1 h4 with h4 | h4
          · omega
          · have := (List.pairwise_cons.1 hG.ord).1 s h4; omega
      have e0 : rd (n :: G) 0 = n := rfl
      have hl2 : ((n :: G).length : Int) ≠ 0 := by rw [List.length_cons]; omega
      have hl3 : (0 : Int) < ((n :: G).length : Int) := by rw [List.length_cons]; omega
      simp only [if_neg hl2, if_neg (show ¬ (((n :: G).length : Int) > 100) by omega), if_pos hl3, e0]
      rw [w64 (n := n - 1) (by omega) (by omega)]
      subst hun
      rw [show (n - 1 != n - 1) = false by simp]
      refine Ev.at1 ?_
      simp only [skiarealaw31_RidesGaps.j2, Bool.false_eq_true, if_false]
      exact tail_go l g m (n :: G) hs hl hg1 hg2 hm hG _ 0 l rfl (by omega) hs (by omega) (fun s => by simp)
  | succ d ih =>
    intro i m hd hi hm
    have hlt : i < l.length := by omega
    have ih' := ih (i + 1) _ (by omega) (by omega) (hm.step hs hlt)
    refine Ev.at1 ?_
    simp only [skiarealaw31_RidesGaps.l0, if_pos (show (i : Int) < (l.length : Int) by omega), if_pos (show (0 : Int) ≤ (i : Int) by omega), rd_at hlt]
    rw [w64 (n := (i : Int) + 1) (by omega) (by omega)]
    by_cases hg : l[i].f0 = g
    · rw [if_pos hg] at ih'
      simp only [if_pos hg]
      exact ih'
    · rw [if_neg hg] at ih'
      simp only [if_neg hg]
      exact ih'
end
theorem RidesGaps : ∀ (l0 : List (S28)) (a1 : Int), l0.length * 56 ≤ 140737488351232 → (l0.length ≤ maxLen ∧ ∀ y ∈ l0, good28 y) → (Lit.int .i64 a1).wf = true → ∃ k, skiarealaw31_RidesGaps.f k l0 a1 = some true := by
  intro l g _ _ _
  have hT : Ev (fun k => skiarealaw31_RidesGaps.j0 k l g true) true := Ev.at1 (by simp only [skiarealaw31_RidesGaps.j0, if_true]; exact Ev.const _)
  refine Ev.rounds (g := fun k => skiarealaw31_RidesGaps.f k l g) ?_
  unfold skiarealaw31_RidesGaps.f
  refine Ev.bind alive_ev ?_
  simp only [if_true]
  obtain ⟨b1, hb1, hs1⟩ := right_ev l
  refine Ev.bind hb1 ?_
  cases b1 with
  | false => simp only [Bool.false_eq_true, if_false]; exact hT
  | true =>
    simp only [if_true]
    obtain ⟨hl, hs⟩ := hs1.1 rfl
    by_cases h1 : g < 1
    · simp only [h1, if_true]; exact hT
    · simp only [h1, if_false]
      by_cases h2 : g > 9999
      · simp only [h2, decide_true]; exact hT
      · simp only [h2, decide_false]
        refine Ev.at1 ?_
        simp only [skiarealaw31_RidesGaps.j0, Bool.false_eq_true, if_false]
        exact great_go l g hs hl (by omega) (by omega) _ 0 0 rfl (by omega) (by simpa using Gr.nil g)
end Go.Proofs.Ytgohhekihfilbaa.Pure
