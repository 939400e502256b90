/- NettingBounds: the least number is at least half the number of the positions that are not 0, and less than this, and the same for the opposite positions. -/
import Derived.Test.YtdljjkjnlcdhbaaMx13
import Derived.Test.YtdljjkjnlcdhbaaGood
import Derived.Test.YtdljjkjnlcdhbaaNa
namespace Go.Proofs.Ytdljjkjnlcdhbaa.Pure
open Go.RowKit Go.Proofs.Ytdljjkjnlcdhbaa.M Go.Proofs.YtdljjkjnlcdhbaaW.PrintWords Go.Proofs.YtdljjkjnlcdhbaaW.PrintLast Go.Proofs.YtdljjkjnlcdhbaaW.PrintMore Go.Proofs.Ytdljjkjnlcdhbaa.Gd Go.Proofs.Ytdljjkjnlcdhbaa.Nt Go.Proofs.Ytdljjkjnlcdhbaa.Mk
set_option linter.unusedSimpArgs false
set_option linter.unusedVariables false
def neg (x : S34) : S34 := ⟨x.f0, -x.f1⟩
theorem neg_good {l : List S34} (h : Nt.Good l) : Nt.Good (l.map neg) := by
  refine ⟨by simpa using h.len, fun x hx => ?_, ?_, ?_⟩
  · obtain ⟨y, hy, rfl⟩ := List.mem_map.1 hx
    have := h.ok y hy
    unfold bad at this ⊢
    simp only [neg]
    omega
  · rw [List.pairwise_map]
    exact h.ord
  · rw [sm_map]
    show sm (fun x : S34 => - x.f1) l = 0
    rw [sm_neg]
    have h2 : sm (fun x : S34 => x.f1) l = 0 := h.sum
    rw [h2]
    rfl
theorem neg_filter (l : List S34) : (l.map neg).filter isNz = (l.filter isNz).map neg := by
  rw [List.filter_map]
  congr 1
  refine List.filter_congr (fun x _ => ?_)
  simp only [Function.comp, neg, isNz]
  by_cases e : x.f1 = 0
  · simp [e]
  · simp [e]
theorem neg_parts {L : List S34} {m k : Nat} (h : Parts am L m k) : Parts am (L.map neg) m k := by
  refine Parts.map (fun s hs => ?_) h
  rw [pk_map, sm_map]
  show sm (fun x : S34 => - x.f1) _ = 0
  rw [sm_neg]
  have h2 : sm (fun x : S34 => x.f1) (pk L s) = 0 := hs
  rw [h2]
  rfl
theorem neg_neg (L : List S34) : (L.map neg).map neg = L := by
  rw [List.map_map]
  conv => rhs; rw [← List.map_id L]
  refine List.map_congr_left (fun x _ => ?_)
  simp [neg]
theorem neg_len {l : List S34} {t u : List S32} (ht : NetOK l t) (hu : NetOK (l.map neg) u) : u.length = t.length := by
  obtain ⟨K, h1, h2, h3⟩ := ht.most
  obtain ⟨K', h1', h2', h3'⟩ := hu.most
  rw [neg_filter] at h1' h2' h3'
  rw [List.length_map] at h1' h2' h3'
  have a := h2' _ (neg_parts h1)
  have b := neg_parts h1'
  rw [neg_neg] at b
  have := h2 _ b
  omega
theorem count_eq (l : List S34) : nz l = ((l.filter isNz).length : Int) := by
  rw [← sm_one, sm_filter_one]
theorem bounds_go (l : List S34) (hg : Nt.Good l) (t u : List S32) (ht : Ev (fun k => netting_Least.f k l) (t.length : Int)) (hu : Ev (fun k => netting_Least.f k (l.map neg)) (u.length : Int))
    (e : u.length = t.length) (b1 : nz l ≤ 2 * t.length) (b2 : nz l = 0 → t.length = 0) (b3 : nz l ≠ 0 → (t.length : Int) < nz l) (hl : t.length ≤ 8) (d : Nat) : ∀ i : Nat, l.length - i = d → i ≤ l.length →
    Ev (fun k => skiarealaw37_NettingBounds.l0 k l ((l.take i).map neg) (nz (l.take i)) (i : Int)) true := by
  have h8 := hg.len
  induction d with
  | zero =>
    intro i hd hi
    refine Ev.at1 ?_
    simp only [skiarealaw37_NettingBounds.l0, if_neg (show ¬ ((i : Int) < (l.length : Int)) by omega)]
    rw [List.take_of_length_le (by omega)]
    refine Ev.bind ht (Ev.bind hu ?_)
    rw [w64 (n := 2 * (t.length : Int)) (by omega) (by omega)]
    simp only [e, if_true, if_pos (show 2 * (t.length : Int) ≥ nz l by omega)]
    by_cases h0 : nz l = 0
    · have := b2 h0
      simp only [h0, if_true, if_pos (show (t.length : Int) = 0 by omega)]
      exact Ev.const _
    · simp only [h0, if_false]
      rw [decide_eq_true (b3 h0)]
      exact Ev.const _
  | succ d ih =>
    intro i hd hi
    have hlt : i < l.length := by omega
    have ih' := ih (i + 1) (by omega) (by omega)
    have hx := hg.ok l[i] (List.getElem_mem hlt)
    unfold bad at hx
    have hn : nz (l.take (i + 1)) = nz (l.take i) + (if l[i].f1 = 0 then 0 else 1) := by
      rw [List.take_succ_eq_append_getElem hlt]
      show sm nzf _ = _
      rw [sm_append]
      show nz _ + (nzf l[i] + 0) = _
      unfold nzf
      omega
    have hb := nz_le (l.take i)
    have hb0 := nz_nonneg (l.take i)
    rw [List.length_take] at hb
    rw [hn, List.take_succ_eq_append_getElem hlt, List.map_append] at ih'
    refine Ev.at1 ?_
    simp only [skiarealaw37_NettingBounds.l0, if_pos (show (i : Int) < (l.length : Int) by omega), if_pos (show (0 : Int) ≤ (i : Int) by omega), rd34 hlt, List.length_map, List.length_take, if_pos (show min i l.length < 8796093022208 by omega), Option.bind_some]
    rw [w64 (n := -l[i].f1) (by omega) (by omega), w64 (n := (i : Int) + 1) (by omega) (by omega), w64 (n := nz (l.take i) + 1) (by omega) (by omega), cast1]
    by_cases hz : l[i].f1 = 0
    · rw [if_pos hz, Int.add_zero] at ih'
      simp only [if_pos hz]
      exact ih'
    · rw [if_neg hz] at ih'
      simp only [if_neg hz]
      exact ih'
theorem NettingBounds : ∀ (l0 : List (S34)), l0.length * 16 ≤ 140737488351232 → (l0.length ≤ maxLen ∧ ∀ y ∈ l0, good34 y) → ∃ k, skiarealaw37_NettingBounds.f k l0 = some true := by
  intro l _ _
  have hT : Ev (fun k => skiarealaw37_NettingBounds.j0 k l true) true := Ev.at1 (by simp only [skiarealaw37_NettingBounds.j0, if_true]; exact Ev.const _)
  refine Ev.rounds (g := fun k => skiarealaw37_NettingBounds.f k l) ?_
  unfold skiarealaw37_NettingBounds.f
  refine Ev.bind alive_ev ?_
  simp only [if_true]
  by_cases h : (l.length : Int) > 8
  · simp only [h, if_true]; exact hT
  simp only [h, if_false]
  refine Ev.bind (Right_ev l) ?_
  by_cases hr : rightS l = 0
  · have e : (rightS l != 0) = false := by simp [hr]
    simp only [e]
    have hg := rightS_zero hr
    obtain ⟨t, ht, he⟩ := Net_ev hg
    obtain ⟨u, hu, heu⟩ := Net_ev (neg_good hg)
    have hl := ht.len_le hg
    have hS := hg.some_
    obtain ⟨K, h1, h2, h3⟩ := ht.most
    have hp := pow_le hS.len
    have h4 := Parts.two (f := am) (l := l.filter isNz) hS.nz (by omega) h1
    rw [pk_full] at h4
    have hc := count_eq l
    refine Ev.at1 ?_
    simp only [skiarealaw37_NettingBounds.j0, Bool.false_eq_true, if_false]
    refine bounds_go l hg t u (Least_ev he) (Least_ev heu) (neg_len ht hu) (by omega) (fun h0 => by omega) (fun h0 => ?_) hl _ 0 rfl (by omega)
    have hK := h2 1 (Parts.one (m := 2 ^ (l.filter isNz).length - 1) (by
      have h5 : 2 ^ 1 ≤ 2 ^ (l.filter isNz).length := Nat.pow_le_pow_right (by omega) (by omega)
      omega) (by rw [pk_full]; exact hS.sum))
    omega
  · have e : (rightS l != 0) = true := by simp [hr]
    simp only [e]
    exact hT
end Go.Proofs.Ytdljjkjnlcdhbaa.Pure
