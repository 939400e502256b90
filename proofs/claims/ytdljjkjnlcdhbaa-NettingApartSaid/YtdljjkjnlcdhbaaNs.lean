/- Netting: settle and Net: what the transfers of the program come to. -/
import Derived.Test.YtdljjkjnlcdhbaaMx6
import Derived.Test.YtdljjkjnlcdhbaaNf
import Derived.Test.YtdljjkjnlcdhbaaNg
import Derived.Test.YtdljjkjnlcdhbaaNv
namespace Go.Proofs.Ytdljjkjnlcdhbaa.Nt
open Go.RowKit Go.Proofs.Ytdljjkjnlcdhbaa.M Go.Proofs.YtdljjkjnlcdhbaaW.PrintWords Go.Proofs.YtdljjkjnlcdhbaaW.PrintLast Go.Proofs.YtdljjkjnlcdhbaaW.PrintMore Go.Proofs.Ytdljjkjnlcdhbaa.Mk Go.Proofs.Ytdljjkjnlcdhbaa.Lb
set_option linter.unusedSimpArgs false
set_option linter.unusedVariables false

theorem sm_set {α : Type} (f : α → Int) : ∀ {l : List α} {i : Nat} (h : i < l.length) (y : α), sm f (l.set i y) = sm f l - f l[i] + f y := by
  intro l
  induction l with
  | nil => intro i h; simp at h
  | cons x l ih =>
    intro i h y
    cases i with
    | zero => simp only [List.set_cons_zero, sm, List.getElem_cons_zero]; omega
    | succ i =>
      have := ih (i := i) (by simpa using h) y
      simp only [List.set_cons_succ, sm, List.getElem_cons_succ, this]; omega
def nzf (x : S34) : Int := if x.f1 = 0 then 0 else 1
abbrev nz (l : List S34) : Int := sm nzf l
theorem nz_nonneg (l : List S34) : 0 ≤ nz l := by
  induction l with
  | nil => exact Int.le_refl _
  | cons x l ih =>
    have h1 : nzf x = 0 ∨ nzf x = 1 := by unfold nzf; split <;> simp
    show 0 ≤ nzf x + nz l
    omega
theorem nz_le (l : List S34) : nz l ≤ l.length := by
  induction l with
  | nil => exact Int.le_refl _
  | cons x l ih =>
    have h1 : nzf x = 0 ∨ nzf x = 1 := by unfold nzf; split <;> simp
    rw [List.length_cons]
    show nzf x + nz l ≤ _
    omega
theorem nz_zero {l : List S34} (h : nz l = 0) : ∀ x ∈ l, x.f1 = 0 := by
  induction l with
  | nil => intro x hx; simp at hx
  | cons y l ih =>
    have h1 := nz_nonneg l
    have h0 : nzf y + nz l = 0 := h
    have h2 : nzf y = 0 ∨ nzf y = 1 := by unfold nzf; split <;> simp
    have hy : y.f1 = 0 := by
      by_cases e : y.f1 = 0
      · exact e
      · have : nzf y = 1 := by unfold nzf; rw [if_neg e]
        omega
    intro x hx
    rcases List.mem_cons.1 hx with rfl | hx
    · exact hy
    · exact ih (by omega) x hx
theorem nz_all {l : List S34} (h : ∀ x ∈ l, x.f1 ≠ 0) : nz l = l.length := by
  rw [← sm_one]
  exact sm_congr (fun x hx => by unfold nzf; rw [if_neg (h x hx)])
theorem nz_none {l : List S34} (h : ∀ x ∈ l, x.f1 = 0) : nz l = 0 := sm_zero (fun x hx => by unfold nzf; rw [if_pos (h x hx)])
theorem bal_set {l : List S34} {i : Nat} (h : i < l.length) (v : Int) (o : Int) : balance (l.set i ⟨l[i].f0, v⟩) o = balance l o + (if l[i].f0 = o then v - l[i].f1 else 0) := by
  have := sm_set (fun s : S34 => if s.f0 = o then s.f1 else 0) h ⟨l[i].f0, v⟩
  have e1 : balance (l.set i ⟨l[i].f0, v⟩) o = sm (fun s : S34 => if s.f0 = o then s.f1 else 0) (l.set i ⟨l[i].f0, v⟩) := rfl
  have e2 : balance l o = sm (fun s : S34 => if s.f0 = o then s.f1 else 0) l := rfl
  rw [e1, e2, this]
  by_cases e : l[i].f0 = o
  · simp only [e, if_true]; omega
  · simp only [e, if_false]; omega
theorem bal_at {l : List S34} (hn : (l.map S34.f0).Nodup) {i : Nat} (h : i < l.length) : balance l l[i].f0 = l[i].f1 := by
  induction l generalizing i with
  | nil => simp at h
  | cons x l ih =>
    rw [List.map_cons, List.nodup_cons] at hn
    have e : ∀ o, balance (x :: l) o = (if x.f0 = o then x.f1 else 0) + balance l o := fun _ => rfl
    cases i with
    | zero =>
      rw [List.getElem_cons_zero, e, if_pos rfl, bal_none (fun y hy (h' : y.f0 = x.f0) => hn.1 (h' ▸ List.mem_map_of_mem hy))]
      omega
    | succ i =>
      have hi : i < l.length := by simpa using h
      rw [List.getElem_cons_succ, e, ih hn.2 hi, if_neg (fun (h' : x.f0 = l[i].f0) => hn.1 (h' ▸ List.mem_map_of_mem (List.getElem_mem hi)))]
      omega
theorem map_set (l : List S34) {i : Nat} (h : i < l.length) (v : Int) : (l.set i ⟨l[i].f0, v⟩).map S34.f0 = l.map S34.f0 := by
  apply List.ext_getElem
  · simp
  · intro j hj hj'
    simp only [List.getElem_map, List.getElem_set]
    split
    · rename_i e; subst e; rfl
    · rfl
theorem mem_set {l : List S34} {i : Nat} {y x : S34} (h : x ∈ l.set i y) : x ∈ l ∨ x = y := by
  obtain ⟨j, hj, rfl⟩ := List.getElem_of_mem h
  rw [List.getElem_set]
  split
  · exact .inr rfl
  · exact .inl (List.getElem_mem _)
def pr (x : S32) : Int × Int := (x.f0, x.f1)
theorem eff_append (a b : List S32) (o : Int) : eff (a ++ b) o = eff a o + eff b o := sm_append _ a b

structure SI (g l : List S34) (out : List S32) : Prop where
  ops : l.map S34.f0 = g.map S34.f0
  sml : ∀ x ∈ l, small x
  sum : sm am l = 0
  eff : ∀ o, balance l o + eff out o = balance g o
  ok : ∀ x ∈ out, x.f0 ∈ g.map S34.f0 ∧ x.f1 ∈ g.map S34.f0 ∧ x.f0 ≠ x.f1 ∧ 1 ≤ x.f2 ∧ x.f2 ≤ 137438953472
  dead : ∀ x ∈ out, balance l x.f0 = 0 ∨ balance l x.f1 = 0
  nd : (out.map pr).Nodup
  cnt : 0 < nz l → out.length + nz l ≤ nz g
  fin : nz l = 0 → out.length + 1 ≤ nz g
/-- What settle answers for a group. -/
structure SetOK (g : List S34) (out : List S32) : Prop where
  eff : ∀ o, eff out o = balance g o
  ok : ∀ x ∈ out, x.f0 ∈ g.map S34.f0 ∧ x.f1 ∈ g.map S34.f0 ∧ x.f0 ≠ x.f1 ∧ 1 ≤ x.f2 ∧ x.f2 ≤ 137438953472
  nd : (out.map pr).Nodup
  cnt : out.length + 1 ≤ g.length
theorem nz_one {l : List S34} (hs : sm am l = 0) (h : nz l ≠ 0) : 2 ≤ nz l := by
  -- one alone that is not 0 would be the sum
  have key : ∀ l : List S34, nz l = 1 → sm am l ≠ 0 := by
    intro l
    induction l with
    | nil => intro h; cases h
    | cons x l ih =>
      intro h e
      have h1 : nzf x + nz l = 1 := h
      have e1 : x.f1 + sm am l = 0 := e
      by_cases hx : x.f1 = 0
      · have h2 : nzf x = 0 := by unfold nzf; rw [if_pos hx]
        rw [hx] at e1
        exact ih (by omega) (by omega)
      · have h2 : nzf x = 1 := by unfold nzf; rw [if_neg hx]
        have h3 : sm am l = 0 := sm_zero (nz_zero (show nz l = 0 by omega))
        omega
  have := nz_nonneg l
  by_cases h1 : nz l = 1
  · exact absurd hs (key l h1)
  · omega
theorem sum_pos : ∀ {l : List S34}, (∀ x ∈ l, ¬ x.f1 < 0) → sm am l = 0 → ∀ x ∈ l, x.f1 = 0 := by
  intro l
  induction l with
  | nil => intro _ _ x hx; simp at hx
  | cons y l ih =>
    intro h e
    have e1 : y.f1 + sm am l = 0 := e
    have hy := h y (by simp)
    have hpos : 0 ≤ sm am l := by
      clear ih e e1
      have h' : ∀ x ∈ l, ¬ x.f1 < 0 := fun x hx => h x (by simp [hx])
      clear h hy
      induction l with
      | nil => exact Int.le_refl _
      | cons z l ih => simp only [sm]; have := h' z (by simp); have := ih (fun x hx => h' x (by simp [hx])); show 0 ≤ z.f1 + _; omega
    intro x hx
    rcases List.mem_cons.1 hx with rfl | hx
    · omega
    · exact ih (fun x hx => h x (by simp [hx])) (by omega) x hx
theorem sum_neg : ∀ {l : List S34}, (∀ x ∈ l, ¬ x.f1 > 0) → sm am l = 0 → ∀ x ∈ l, x.f1 = 0 := by
  intro l h e
  have e1 : sm am (l.map (fun x => ⟨x.f0, -x.f1⟩)) = 0 := by
    rw [sm_map]
    show sm (fun x : S34 => - x.f1) l = 0
    rw [sm_neg]
    show - sm am l = 0
    omega
  have := sum_pos (l := l.map (fun x => ⟨x.f0, -x.f1⟩)) (fun x hx => by
    obtain ⟨y, hy, rfl⟩ := List.mem_map.1 hx
    have := h y hy
    show ¬ (- y.f1 < 0)
    omega) e1
  intro x hx
  have h2 : -x.f1 = 0 := this ⟨x.f0, -x.f1⟩ (List.mem_map.2 ⟨x, hx, rfl⟩)
  omega
theorem SI.done {g l : List S34} {out : List S32} (h : SI g l out) (hz : ∀ x ∈ l, x.f1 = 0) : SetOK g out := by
  refine ⟨fun o => ?_, h.ok, h.nd, ?_⟩
  · have := h.eff o
    rw [show balance l o = 0 from sm_zero (fun x hx => by rw [hz x hx]; split <;> rfl)] at this
    omega
  · have := h.fin (nz_none hz)
    have := nz_le g
    omega
theorem settle_go (g : List S34) (hl : g.length ≤ 8) (hn : (g.map S34.f0).Nodup) (d : Nat) : ∀ (l : List S34) (out : List S32), nz l ≤ d → SI g l out → ∃ r, SetOK g r ∧ Ev (fun k => netting_settle.l0 k l out) r := by
  induction d with
  | zero =>
    intro l out hd h
    have h0 := nz_nonneg l
    have hz := nz_zero (show nz l = 0 by omega)
    have hlen : l.length ≤ 8 := by have := congrArg List.length h.ops; simp at this; omega
    obtain ⟨r1, hr1, he1⟩ := first_neg_ev l hlen
    obtain ⟨r2, hr2, he2⟩ := first_pos_ev l hlen
    refine ⟨out, h.done hz, Ev.at1 ?_⟩
    simp only [netting_settle.l0]
    refine Ev.bind he1 (Ev.bind he2 ?_)
    rcases hr1 with ⟨rfl, _⟩ | ⟨i, hi, _, hneg, _⟩
    · simp only [show (-1 : Int) < 0 by decide, if_true]
      exact Ev.const _
    · have := hz l[i] (List.getElem_mem hi)
      omega
  | succ d ih =>
    intro l out hd h
    have hlen : l.length ≤ 8 := by have := congrArg List.length h.ops; simp at this; omega
    have hnl : (l.map S34.f0).Nodup := by rw [h.ops]; exact hn
    obtain ⟨r1, hr1, he1⟩ := first_neg_ev l hlen
    obtain ⟨r2, hr2, he2⟩ := first_pos_ev l hlen
    rcases hr1 with ⟨rfl, hall⟩ | ⟨i, hi, rfl, hneg, _⟩
    · refine ⟨out, h.done (sum_pos hall h.sum), Ev.at1 ?_⟩
      simp only [netting_settle.l0]
      refine Ev.bind he1 (Ev.bind he2 ?_)
      simp only [show (-1 : Int) < 0 by decide, if_true]
      exact Ev.const _
    rcases hr2 with ⟨rfl, hall⟩ | ⟨j, hj, rfl, hpos, _⟩
    · refine ⟨out, h.done (sum_neg hall h.sum), Ev.at1 ?_⟩
      simp only [netting_settle.l0]
      refine Ev.bind he1 (Ev.bind he2 ?_)
      simp only [show (-1 : Int) < 0 by decide, if_true, if_neg (show ¬ ((i : Int) < 0) by omega)]
      exact Ev.const _
    have hij : i ≠ j := by rintro rfl; omega
    have si := h.sml l[i] (List.getElem_mem hi)
    have sj := h.sml l[j] (List.getElem_mem hj)
    unfold small at si sj
    have hopne : l[i].f0 ≠ l[j].f0 := by
      intro e
      have h1 := (List.getElem_inj (xs := l.map S34.f0) (i := i) (j := j) (h₀ := by simpa using hi) (h₁ := by simpa using hj) hnl).1 (by simpa using e)
      exact hij h1
    generalize hnn : mn (-l[i].f1) l[j].f1 = n
    have hn1 : n = -l[i].f1 ∨ n = l[j].f1 := by rw [← hnn]; unfold mn; split <;> simp
    have hn2 : 1 ≤ n ∧ n ≤ -l[i].f1 ∧ n ≤ l[j].f1 := by rw [← hnn]; unfold mn; split <;> omega
    generalize hl1 : l.set i ⟨l[i].f0, l[i].f1 + n⟩ = l1
    have len1 : l1.length = l.length := by rw [← hl1]; simp
    have hj1 : j < l1.length := by omega
    have hi1 : i < l1.length := by omega
    have at1 : l1[j] = l[j] := by subst hl1; rw [List.getElem_set, if_neg hij]
    generalize hl2 : l1.set j ⟨l1[j].f0, l1[j].f1 - n⟩ = l2
    have len2 : l2.length = l.length := by rw [← hl2]; simp [len1]
    have at2i : (l2[i]'(by omega)).f0 = l[i].f0 := by
      subst hl2
      rw [List.getElem_set, if_neg (fun h => hij h.symm)]
      subst hl1
      rw [List.getElem_set, if_pos rfl]
    have at2j : (l2[j]'(by omega)).f0 = l[j].f0 := by
      subst hl2
      rw [List.getElem_set, if_pos rfl, at1]
    have hbal : ∀ o, balance l2 o = balance l o + (if l[i].f0 = o then n else 0) - (if l[j].f0 = o then n else 0) := by
      intro o
      have e2 := bal_set hj1 (l1[j].f1 - n) o
      rw [hl2, at1] at e2
      have e1 := bal_set hi (l[i].f1 + n) o
      rw [hl1] at e1
      rw [e2, e1]
      by_cases c1 : l[i].f0 = o <;> by_cases c2 : l[j].f0 = o <;> simp only [c1, c2, if_true, if_false] <;> omega
    have hsum : sm am l2 = 0 := by
      have e2 := sm_set am hj1 ⟨l1[j].f0, l1[j].f1 - n⟩
      rw [hl2, at1] at e2
      have e1 := sm_set am hi ⟨l[i].f0, l[i].f1 + n⟩
      rw [hl1] at e1
      have := h.sum
      simp only [am] at e1 e2 this ⊢
      omega
    have hnz : nz l2 = nz l - 2 + (if l[i].f1 + n = 0 then 0 else 1) + (if l[j].f1 - n = 0 then 0 else 1) := by
      have e2 := sm_set nzf hj1 ⟨l1[j].f0, l1[j].f1 - n⟩
      rw [hl2, at1] at e2
      have e1 := sm_set nzf hi ⟨l[i].f0, l[i].f1 + n⟩
      rw [hl1] at e1
      have z1 : nzf l[i] = 1 := by unfold nzf; rw [if_neg (by omega)]
      have z2 : nzf l[j] = 1 := by unfold nzf; rw [if_neg (by omega)]
      have z3 : nzf ⟨l[i].f0, l[i].f1 + n⟩ = (if l[i].f1 + n = 0 then 0 else 1) := rfl
      have z4 : nzf ⟨l[j].f0, l[j].f1 - n⟩ = (if l[j].f1 - n = 0 then 0 else 1) := rfl
      rw [z1, z3] at e1
      rw [z2, z4] at e2
      simp only [nz]
      omega
    have hless : nz l2 ≤ nz l - 1 := by
      rw [hnz]
      rcases hn1 with e | e
      · rw [if_pos (show l[i].f1 + n = 0 by omega)]; split <;> omega
      · rw [if_pos (show l[j].f1 - n = 0 by omega)]; split <;> omega
    have hnzl : nz l ≠ 0 := fun e => by have := nz_zero e l[i] (List.getElem_mem hi); omega
    have h2 := nz_one h.sum hnzl
    have hcnt := h.cnt (by omega)
    have hnzg := nz_le g
    have bi := bal_at hnl hi
    have bj := bal_at hnl hj
    have inv : SI g l2 (out ++ [⟨l[i].f0, l[j].f0, n⟩]) := by
      refine ⟨?_, fun x hx => ?_, hsum, fun o => ?_, fun x hx => ?_, fun x hx => ?_, ?_, fun _ => ?_, fun _ => ?_⟩
      · rw [← hl2, map_set, ← hl1, map_set]; exact h.ops
      · rw [← hl2] at hx
        rcases mem_set hx with hx | rfl
        · rw [← hl1] at hx
          rcases mem_set hx with hx | rfl
          · exact h.sml x hx
          · unfold small; simp only; omega
        · unfold small; simp only [at1]; omega
      · rw [eff_append, hbal]
        have := h.eff o
        have e : eff [(⟨l[i].f0, l[j].f0, n⟩ : S32)] o = (if l[j].f0 = o then n else 0) - (if l[i].f0 = o then n else 0) + 0 := rfl
        rw [e]
        omega
      · rcases List.mem_append.1 hx with hx | hx
        · exact h.ok x hx
        · rw [List.mem_singleton.1 hx, ← h.ops]
          exact ⟨List.mem_map_of_mem (List.getElem_mem hi), List.mem_map_of_mem (List.getElem_mem hj), hopne, hn2.1, by show n ≤ _; omega⟩
      · rcases List.mem_append.1 hx with hx | hx
        · rcases h.dead x hx with e | e
          · left
            rw [hbal, e, if_neg (fun e' => by rw [← e', bi] at e; omega), if_neg (fun e' => by rw [← e', bj] at e; omega)]
            omega
          · right
            rw [hbal, e, if_neg (fun e' => by rw [← e', bi] at e; omega), if_neg (fun e' => by rw [← e', bj] at e; omega)]
            omega
        · rw [List.mem_singleton.1 hx]
          rcases hn1 with e | e
          · left
            show balance l2 l[i].f0 = 0
            rw [hbal, if_pos rfl, if_neg (fun e => hopne e.symm), bi]
            omega
          · right
            show balance l2 l[j].f0 = 0
            rw [hbal, if_pos rfl, if_neg hopne, bj]
            omega
      · rw [List.map_append, List.nodup_append]
        refine ⟨h.nd, by simp, fun a ha b hb => ?_⟩
        obtain ⟨x, hx, rfl⟩ := List.mem_map.1 ha
        have hb' : b = pr ⟨l[i].f0, l[j].f0, n⟩ := by simpa using hb
        subst hb'
        intro e
        injection e with e1 e2
        simp only at e1 e2
        rcases h.dead x hx with z | z
        · rw [e1, bi] at z; omega
        · rw [e2, bj] at z; omega
      · simp only [List.length_append, List.length_singleton]; omega
      · simp only [List.length_append, List.length_singleton]; omega
    obtain ⟨r, hr, he⟩ := ih l2 (out ++ [⟨l[i].f0, l[j].f0, n⟩]) (by omega) inv
    refine ⟨r, hr, Ev.at1 ?_⟩
    simp only [netting_settle.l0]
    refine Ev.bind he1 (Ev.bind he2 ?_)
    simp only [if_neg (show ¬ ((i : Int) < 0) by omega), if_neg (show ¬ ((j : Int) < 0) by omega), if_pos (show (0 : Int) ≤ (i : Int) by omega), if_pos (show (0 : Int) ≤ (j : Int) by omega), if_pos (show (i : Int) < (l.length : Int) by omega), if_pos (show (j : Int) < (l.length : Int) by omega),
      rd34 hi, rd34 hj, Option.bind_some, Int.toNat_natCast]
    rw [w64 (n := -l[i].f1) (by omega) (by omega), hnn, w64 (n := l[i].f1 + n) (by omega) (by omega), hl1]
    simp only [rd34 hj1]
    rw [w64 (n := l1[j].f1 - n) (by rw [at1]; omega) (by rw [at1]; omega), hl2]
    simp only [rd34 (show i < l2.length by omega), rd34 (show j < l2.length by omega), at2i, at2j, if_pos (show out.length < 5864062014805 by omega)]
    exact he
theorem clone_ev (l : List S34) (hl : l.length ≤ 8) : api_Share_24.f l = some l := by
  unfold api_Share_24.f
  simp only [Option.bind_some, List.nil_append, List.length_nil, Nat.zero_add]
  rw [if_pos (by omega)]
theorem settle_ev {g : List S34} (hl : g.length ≤ 8) (hn : (g.map S34.f0).Nodup) (hs : ∀ x ∈ g, small x) (hz : ∀ x ∈ g, x.f1 ≠ 0) (h0 : sm am g = 0) (hne : g ≠ []) :
    ∃ r, SetOK g r ∧ Ev (fun k => netting_settle.f k g) r := by
  have hnz := nz_all hz
  have hpos : 0 < g.length := List.length_pos_iff.2 hne
  obtain ⟨r, hr, he⟩ := settle_go g hl hn g.length g [] (by omega) ⟨rfl, hs, h0, fun o => by show balance g o + 0 = _; omega, fun x hx => by simp at hx, fun x hx => by simp at hx, by simp, fun _ => by simp, fun h => by omega⟩
  refine ⟨r, hr, ?_⟩
  unfold netting_settle.f
  rw [clone_ev g hl]
  simp only [Option.bind_some]
  exact he

/-! ### The positions that are not 0 -/
abbrev isNz (x : S34) : Bool := !(decide (x.f1 = 0))
theorem nz_go (l : List S34) (hl : l.length ≤ 8) (d : Nat) : ∀ (i j : Nat) (y : List S34), l.length - j = d → i ≤ j → j ≤ l.length → y.length = l.length → y.take i = (l.take j).filter isNz → y.drop j = l.drop j →
    Ev (fun k => netting_nonzero.l0 k y (i : Int) (j : Int)) (l.filter isNz) := by
  induction d with
  | zero =>
    intro i j y hd hij hj hy ht hdr
    refine Ev.at1 ?_
    simp only [netting_nonzero.l0, if_neg (show ¬ ((j : Int) < (y.length : Int)) by omega), if_pos (show (0 : Int) ≤ (i : Int) by omega), if_pos (show (i : Int) ≤ (y.length : Int) by omega), Int.toNat_natCast]
    rw [ht, List.take_of_length_le (by omega)]
    exact Ev.const _
  | succ d ih =>
    intro i j y hd hij hj hy ht hdr
    have hlt : j < l.length := by omega
    have hjy : j < y.length := by omega
    have hyj : y[j] = l[j] := by
      rw [List.drop_eq_getElem_cons hlt, List.drop_eq_getElem_cons hjy] at hdr
      injection hdr
    have hdr' : y.drop (j + 1) = l.drop (j + 1) := by
      have := congrArg (List.drop 1) hdr
      rwa [List.drop_drop, List.drop_drop] at this
    have e := netting_Net_1_ev l[j]
    refine Ev.at1 ?_
    simp only [netting_nonzero.l0, if_pos (show (j : Int) < (y.length : Int) by omega), if_pos (show (0 : Int) ≤ (j : Int) by omega), rd34 hjy, hyj, e, Option.bind_some]
    rw [w64 (n := (j : Int) + 1) (by omega) (by omega), cast1]
    by_cases hz : l[j].f1 = 0
    · simp only [hz, decide_true, if_true]
      refine ih i (j + 1) y (by omega) (by omega) (by omega) hy ?_ hdr'
      rw [List.take_succ_eq_append_getElem hlt, List.filter_append, ht]
      simp [hz]
    · simp only [hz, decide_false, Bool.false_eq_true, if_false, if_pos (show (0 : Int) ≤ (i : Int) by omega), if_pos (show (i : Int) < (y.length : Int) by omega), S34.eta, Int.toNat_natCast]
      rw [w64 (n := (i : Int) + 1) (by omega) (by omega), cast1]
      refine ih (i + 1) (j + 1) (y.set i l[j]) (by omega) (by omega) (by omega) (by simpa using hy) ?_ ?_
      · rw [List.take_succ_eq_append_getElem hlt, List.filter_append, ← ht]
        rw [List.take_succ_eq_append_getElem (by simp; omega)]
        rw [List.getElem_set, if_pos rfl, List.take_set_of_le (by omega)]
        simp [hz]
      · rw [List.drop_set_of_lt (by omega)]
        exact hdr'
theorem nonzero_ev (l : List S34) (hl : l.length ≤ 8) : Ev (fun k => netting_nonzero.f k l) (l.filter isNz) := by
  obtain ⟨r, hr, he⟩ := first_zero_ev l hl
  unfold netting_nonzero.f
  refine Ev.bind he ?_
  rcases hr with ⟨rfl, h⟩ | ⟨i, hi, rfl, hz, h⟩
  · simp only [if_true]
    rw [List.filter_eq_self.2 (fun x hx => by have := h x hx; simp [this])]
    exact Ev.const _
  · simp only [if_neg (show ¬ ((i : Int) = -1) by omega)]
    rw [w64 (n := (i : Int) + 1) (by omega) (by omega), cast1]
    refine nz_go l hl _ i (i + 1) l rfl (by omega) (by omega) rfl ?_ rfl
    rw [List.take_succ_eq_append_getElem hi, List.filter_append, List.filter_eq_self.2 (fun x hx => by have := h x hx; simp [this])]
    simp [hz]

/-! ### Net -/
def ltT (x y : S32) : Prop := x.f0 < y.f0 ∨ (x.f0 = y.f0 ∧ x.f1 < y.f1)
structure OutOK (L : List S34) (m : Nat) (n : Nat) (out : List S32) : Prop where
  eff : ∀ o, eff out o = balance (pk L m) o
  ok : ∀ x ∈ out, x.f0 ∈ (pk L m).map S34.f0 ∧ x.f1 ∈ (pk L m).map S34.f0 ∧ x.f0 ≠ x.f1 ∧ 1 ≤ x.f2 ∧ x.f2 ≤ 137438953472
  nd : (out.map pr).Nodup
  cnt : out.length + n ≤ (pk L m).length
theorem rdL3 {l : List (List S34)} {i : Nat} (h : i < l.length) : rd_L3 l (i : Int) = l[i] := by simp [rd_L3, h]
theorem loop_go {L : List S34} (hl : L.length ≤ 8) (hn : (L.map S34.f0).Nodup) (hs : ∀ x ∈ L, small x) (hz : ∀ x ∈ L, x.f1 ≠ 0) (full : List (List S34)) (hfl : full.length ≤ 8) : ∀ (gs : List (List S34)) (m i : Nat) (acc : List S32), m < 2 ^ L.length → Split L gs m → full.drop i = gs → i ≤ full.length → acc.length + (pk L m).length ≤ 8 →
    ∃ out, OutOK L m gs.length out ∧ ∀ r, Ev (fun k => netting_Net_2_sort.f (acc ++ out)) r → Ev (fun k => netting_Net.l0 k acc full (full.length : Int) (i : Int)) r := by
  intro gs
  induction gs with
  | nil =>
    intro m i acc hm hsp hdr hi ha
    have hm0 : m = 0 := hsp
    subst hm0
    have hi' : full.length ≤ i := List.drop_eq_nil_iff.1 hdr
    refine ⟨[], ⟨fun o => by rw [pk_nil]; rfl, fun x hx => by simp at hx, by simp, by simp⟩, fun r hr => Ev.at1 ?_⟩
    simp only [netting_Net.l0, if_neg (show ¬ ((i : Int) < (full.length : Int)) by omega)]
    rw [List.append_nil] at hr
    exact Ev.bind (f := fun _ t => some t) hr (Ev.const _)
  | cons g gs ih =>
    intro m i acc hm hsp hdr hi ha
    obtain ⟨s, h1, h2, h3, rfl, h5⟩ := hsp
    have hlt : i < full.length := by
      by_cases h : i < full.length
      · exact h
      · rw [List.drop_of_length_le (by omega)] at hdr; cases hdr
    have hfi : full[i] = pk L s ∧ full.drop (i + 1) = gs := by
      rw [List.drop_eq_getElem_cons hlt] at hdr
      injection hdr with a b
      exact ⟨a, b⟩
    have hsub : (pk L s).Sublist L := pk_sub s
    have hne := pk_ne (l := L) (Nat.lt_of_le_of_lt h1.le hm) h2
    obtain ⟨o1, k1, e1⟩ := settle_ev (g := pk L s) (Nat.le_trans (pk_len L s) hl) (hn.sublist (hsub.map _)) (fun x hx => hs x (pk_mem hx)) (fun x hx => hz x (pk_mem hx)) h3 hne
    have hlen := pk_split (fun _ => 1) L h1
    rw [sm_one, sm_one, sm_one] at hlen
    have hk1 := k1.cnt
    obtain ⟨o2, k2, e2⟩ := ih (df m s) (i + 1) (acc ++ o1) (Nat.lt_of_le_of_lt (df_le m s) hm) h5 hfi.2 (by omega) (by rw [List.length_append]; omega)
    refine ⟨o1 ++ o2, ⟨fun o => ?_, fun x hx => ?_, ?_, ?_⟩, fun r hr => Ev.at1 ?_⟩
    · rw [eff_append, k1.eff, k2.eff]
      exact (pk_split _ L h1).symm
    · have up : ∀ {t : Nat} {v : Int}, Sub t m → v ∈ (pk L t).map S34.f0 → v ∈ (pk L m).map S34.f0 := by
        intro t v ht hv
        obtain ⟨y, hy, rfl⟩ := List.mem_map.1 hv
        exact List.mem_map_of_mem (pk_mem_sub ht hy)
      rcases List.mem_append.1 hx with hx | hx
      · obtain ⟨a, b, c⟩ := k1.ok x hx
        exact ⟨up h1 a, up h1 b, c⟩
      · obtain ⟨a, b, c⟩ := k2.ok x hx
        exact ⟨up (Sub.df m s) a, up (Sub.df m s) b, c⟩
    · rw [List.map_append, List.nodup_append]
      refine ⟨k1.nd, k2.nd, fun a ha b hb e => ?_⟩
      obtain ⟨x, hx, rfl⟩ := List.mem_map.1 ha
      obtain ⟨y, hy, rfl⟩ := List.mem_map.1 hb
      injection e with e3 e4
      obtain ⟨p, hp, hp'⟩ := List.mem_map.1 (k1.ok x hx).1
      obtain ⟨q, hq, hq'⟩ := List.mem_map.1 (k2.ok y hy).1
      exact pk_disj hn hp hq (by rw [hp', hq', e3])
    · have := k2.cnt
      rw [List.length_append, List.length_cons]
      omega
    · simp only [netting_Net.l0, if_pos (show (i : Int) < (full.length : Int) by omega), if_pos (show (0 : Int) ≤ (i : Int) by omega), rdL3 hlt, hfi.1]
      refine Ev.bind e1 ?_
      simp only [if_pos (show acc.length + o1.length < 5864062014805 by omega)]
      rw [w64 (n := (i : Int) + 1) (by omega) (by omega), cast1]
      refine e2 r ?_
      rw [List.append_assoc]
      exact hr
structure NetOK (l : List S34) (t : List S32) : Prop where
  set : settles l t
  ord : t.Pairwise ltT
  most : ∃ K, Parts am (l.filter isNz) (2 ^ (l.filter isNz).length - 1) K ∧ (∀ k, Parts am (l.filter isNz) (2 ^ (l.filter isNz).length - 1) k → k ≤ K) ∧ t.length + K = (l.filter isNz).length
theorem eff_perm {a b : List S32} (h : a.Perm b) (o : Int) : eff a o = eff b o := sm_perm h
theorem cf_lt (x y : S32) (h : ¬ netting_Net_2_cf y x < 0) (hne : pr x ≠ pr y) : ltT x y := by
  simp only [netting_Net_2_cf, netting_Net_2_ks, Lx.lexL] at h
  unfold ltT
  have : ¬ (x.f0 = y.f0 ∧ x.f1 = y.f1) := fun e => hne (by unfold pr; rw [e.1, e.2])
  repeat' split at h
  all_goals omega
/-- Positions without those that are 0. -/
structure Some_ (l : List S34) : Prop where
  len : (l.filter isNz).length ≤ 8
  nd : ((l.filter isNz).map S34.f0).Nodup
  os : ∀ x ∈ l.filter isNz, S34.f0 x ∈ Lb.os
  sml : ∀ x ∈ l.filter isNz, small x
  nz : ∀ x ∈ l.filter isNz, x.f1 ≠ 0
  sum : sm am (l.filter isNz) = 0
theorem Good.some_ {l : List S34} (h : Good l) : Some_ l := by
  have hsub : (l.filter isNz).Sublist l := List.filter_sublist
  refine ⟨Nat.le_trans hsub.length_le h.len, ?_, fun x hx => ?_, fun x hx => ?_, fun x hx => ?_, ?_⟩
  · have hp : (l.map S34.f0).Nodup := by
      rw [List.nodup_iff_pairwise_ne, List.pairwise_map]
      exact h.ord.imp (fun h => by omega)
    exact hp.sublist (hsub.map _)
  · have := h.ok x (hsub.subset hx)
    unfold bad at this
    exact Lb.os_mem.2 (by omega)
  · have := h.ok x (hsub.subset hx)
    unfold bad at this
    unfold small
    omega
  · have := (List.mem_filter.1 hx).2
    simpa using this
  · rw [sm_filter (fun x _ hx => by simpa using hx)]
    exact h.sum
theorem Net_ev {l : List S34} (h : Good l) : ∃ t, NetOK l t ∧ Ev (fun k => netting_Net.f k l) t := by
  have hS := h.some_
  generalize hL : l.filter isNz = L at hS
  have hlen := hS.len
  have hnd := hS.nd
  have hos := hS.os
  have hsm := hS.sml
  have hnz := hS.nz
  have hsum := hS.sum
  rw [hL] at hlen hnd hos hsm hnz hsum
  obtain ⟨gs, ⟨hsp, hmax⟩, hge⟩ := groups_ev hsm hlen hsum
  have h2 := hsp.parts
  have hp := pow_le hlen
  have htwo := Parts.two (f := am) (l := L) hnz (by omega) h2
  rw [pk_full] at htwo
  obtain ⟨out, hout, hrun⟩ := loop_go hlen hnd hsm hnz gs (by omega) gs (2 ^ L.length - 1) 0 [] (by omega) hsp rfl (by omega) (by rw [pk_full]; simp; exact hlen)
  obtain ⟨hperm, hsorted⟩ := Sr.srt_spec netting_Net_2_cf netting_Net_2_swo out
  have hoke : ∀ x ∈ out, okT x := by
    intro x hx
    obtain ⟨a, b, c, d, e⟩ := hout.ok x hx
    rw [pk_full] at a b
    obtain ⟨p, hp1, hp2⟩ := List.mem_map.1 a
    obtain ⟨q, hq1, hq2⟩ := List.mem_map.1 b
    have h3 := Lb.os_mem.1 (hos p hp1)
    have h4 := Lb.os_mem.1 (hos q hq1)
    rw [hp2] at h3
    rw [hq2] at h4
    exact ⟨h3, h4, c, d, by omega⟩
  have heff : ∀ o, eff (Sr.srt netting_Net_2_cf out) o = balance l o := by
    intro o
    rw [eff_perm hperm, hout.eff o, pk_full, ← hL]
    exact sm_filter (fun x _ hx => by
      have : x.f1 = 0 := by simpa using hx
      rw [this]; split <;> rfl)
  have hok : ∀ x ∈ Sr.srt netting_Net_2_cf out, okT x := fun x hx => hoke x (hperm.mem_iff.1 hx)
  refine ⟨Sr.srt netting_Net_2_cf out, ⟨⟨hok, fun i _ => ?_⟩, ?_, gs.length, ?_, ?_, ?_⟩, ?_⟩
  · show balance l i - eff _ i = 0
    rw [heff]; omega
  · have hnd2 : ((Sr.srt netting_Net_2_cf out).map pr).Nodup := (hperm.map pr).nodup_iff.2 hout.nd
    rw [List.nodup_iff_pairwise_ne, List.pairwise_map] at hnd2
    exact (hsorted.and hnd2).imp (fun h => cf_lt _ _ h.1 h.2)
  · rw [hL]; exact h2
  · rw [hL]; exact hmax
  · rw [hL]
    have hcnt := hout.cnt
    rw [pk_full] at hcnt
    obtain ⟨k, hk, hkl⟩ := Lb.fewest (fr := S32.f0) (go := S32.f1) (am := S32.f2) (op := S34.f0) (amt := am) (T := out) (L := L) (fun x hx => by
      have := hoke x hx
      exact ⟨Lb.os_mem.2 this.1, Lb.os_mem.2 this.2.1⟩) hnd hos (fun o _ => by
      have := hout.eff o
      rw [pk_full] at this
      exact this)
    have := hmax k hk
    rw [hperm.length_eq]
    omega
  · unfold netting_Net.f
    rw [clone_ev l h.len]
    simp only [Option.bind_some]
    have hne := nonzero_ev l h.len
    rw [hL] at hne
    refine Ev.bind hne (Ev.bind hge ?_)
    refine hrun _ ?_
    rw [List.nil_append]
    have hcnt := hout.cnt
    rw [pk_full] at hcnt
    unfold netting_Net_2_sort.f
    simp only [if_pos (show out.length < 4611686018427387904 by omega)]
    exact Ev.const _
theorem Least_ev {l : List S34} {t : List S32} (h : Ev (fun k => netting_Net.f k l) t) : Ev (fun k => netting_Least.f k l) (t.length : Int) := by
  unfold netting_Least.f
  exact Ev.bind h (Ev.const _)
/-- No fewer transfers settle. -/
theorem NetOK.least {l : List S34} {t u : List S32} (hl : Good l) (h : NetOK l t) (hu : settles l u) : t.length ≤ u.length := by
  have hS := hl.some_
  obtain ⟨K, _, hmax, hlen⟩ := h.most
  obtain ⟨k, hk, hkl⟩ := Lb.fewest (fr := S32.f0) (go := S32.f1) (am := S32.f2) (op := S34.f0) (amt := am) (T := u) (L := l.filter isNz) (fun x hx => by
      have := hu.1 x hx
      exact ⟨Lb.os_mem.2 this.1, Lb.os_mem.2 this.2.1⟩) hS.nd hS.os (fun o ho => by
      have h3 := Lb.os_mem.1 ho
      have h1 := hu.2 o.toNat (by omega)
      have h2 : balance l o - eff u o = 0 := by
        have e : ((o.toNat : Nat) : Int) = o := by omega
        rw [e] at h1
        exact h1
      have e2 : Lb.bal S34.f0 am (l.filter isNz) o = balance l o := sm_filter (fun x _ hx => by
        have : x.f1 = 0 := by simpa using hx
        show (if x.f0 = o then x.f1 else 0) = 0
        rw [this]; split <;> rfl)
      rw [e2]
      show eff u o = _
      omega)
  have := hmax k hk
  omega
end Go.Proofs.Ytdljjkjnlcdhbaa.Nt
