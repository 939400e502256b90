/- Netting: Valid of the program and of the reference: both tell whether transfers settle positions. -/
import Derived.Test.YtdljjkjnlcdhbaaMx9
import Derived.Test.YtdljjkjnlcdhbaaNr
namespace Go.Proofs.Ytdljjkjnlcdhbaa.Nt
open Go.RowKit Go.Proofs.Ytdljjkjnlcdhbaa.M Go.Proofs.YtdljjkjnlcdhbaaW.PrintWords Go.Proofs.YtdljjkjnlcdhbaaW.PrintLast Go.Proofs.YtdljjkjnlcdhbaaW.PrintMore Go.Proofs.Ytdljjkjnlcdhbaa.Mk Go.Proofs.Ytdljjkjnlcdhbaa.Lb
set_option linter.unusedSimpArgs false
set_option linter.unusedVariables false

abbrev eff (t : List S32) (o : Int) : Int := Lb.ef S32.f0 S32.f1 S32.f2 t o
abbrev balance (l : List S34) (o : Int) : Int := Lb.bal S34.f0 S34.f1 l o
def okT (x : S32) : Prop := (1 ≤ x.f0 ∧ x.f0 ≤ 8) ∧ (1 ≤ x.f1 ∧ x.f1 ≤ 8) ∧ x.f0 ≠ x.f1 ∧ 1 ≤ x.f2 ∧ x.f2 ≤ 1099511627776
instance (x : S32) : Decidable (okT x) := by unfold okT; infer_instance
def tab (f : Int → Int) : List Int := (List.range 9).map (fun (i : Nat) => f (i : Int))
theorem tab_len (f : Int → Int) : (tab f).length = 9 := by simp [tab]
theorem tab_rd (f : Int → Int) {i : Int} (h0 : 0 ≤ i) (h1 : i < 9) : rd (tab f) i = f i := by
  have : i.toNat < 9 := by omega
  simp [rd, tab, this]
  congr 1
  omega
theorem tab_set (f : Int → Int) {i : Int} (h0 : 0 ≤ i) (h1 : i < 9) (v : Int) : (tab f).set i.toNat v = tab (fun o => if o = i then v else f o) := by
  apply List.ext_getElem
  · simp [tab]
  · intro j hj hj'
    have hj9 : j < 9 := by simpa [tab] using hj'
    simp only [tab, List.getElem_set, List.getElem_map, List.getElem_range]
    by_cases e : i.toNat = j
    · rw [if_pos e, if_pos (by omega)]
    · rw [if_neg e, if_neg (by omega)]
theorem tab_congr {f g : Int → Int} (h : ∀ o, f o = g o) : tab f = tab g := by
  have : f = g := funext h
  rw [this]
theorem tab_zero : List.replicate 9 (0 : Int) = tab (fun _ => 0) := by decide
/-- Nothing is left over. -/
def allZ (f : Int → Int) : Prop := ∀ i : Nat, i < 9 → f (i : Int) = 0
instance (f : Int → Int) : Decidable (allZ f) := by unfold allZ; infer_instance
theorem all_tab (f : Int → Int) : (List.all (tab f) fun x => x == 0) = decide (allZ f) := by
  rw [Bool.eq_iff_iff, List.all_eq_true, decide_eq_true_eq]
  constructor
  · intro h i hi
    have := h (f i) (List.mem_map.2 ⟨i, List.mem_range.2 hi, rfl⟩)
    simpa using this
  · intro h x hx
    obtain ⟨i, hi, rfl⟩ := List.mem_map.1 hx
    simpa using h i (List.mem_range.1 hi)
def settles (l : List S34) (t : List S32) : Prop := (∀ x ∈ t, okT x) ∧ allZ (fun o => balance l o - eff t o)
instance (l : List S34) (t : List S32) : Decidable (settles l t) := by unfold settles; infer_instance
theorem allZ_congr {f g : Int → Int} (h : ∀ o, f o = g o) : allZ f ↔ allZ g := by
  have : f = g := funext h
  rw [this]

theorem dec_true {p : Prop} [Decidable p] (h : p) : decide p = true := decide_eq_true h
theorem all_cons {x : S32} {t : List S32} : (∀ y ∈ x :: t, okT y) ↔ okT x ∧ ∀ y ∈ t, okT y := by simp
theorem eff_cons (x : S32) (t : List S32) (o : Int) : eff (x :: t) o = (if x.f1 = o then x.f2 else 0) - (if x.f0 = o then x.f2 else 0) + eff t o := rfl

theorem V1_go (t : List S32) (hl : t.length ≤ 1000) (d : Nat) : ∀ (j : Nat) (f : Int → Int), t.length - j = d → j ≤ t.length → (∀ o, -((j + 2) * 1099511627776) ≤ f o ∧ f o ≤ (j + 2) * 1099511627776) →
    Ev (fun k => netting_Valid.l1 k (tab f) t (t.length : Int) (j : Int)) (decide ((∀ x ∈ t.drop j, okT x) ∧ allZ (fun o => f o - eff (t.drop j) o))) := by
  induction d with
  | zero =>
    intro j f hd hj hf
    refine Ev.at1 ?_
    simp only [netting_Valid.l1, if_neg (show ¬ ((j : Int) < (t.length : Int)) by omega)]
    rw [List.drop_of_length_le (by omega), all_tab]
    have : decide ((∀ x ∈ ([] : List S32), okT x) ∧ allZ (fun o => f o - eff [] o)) = decide (allZ f) := by
      rw [decide_eq_decide]
      rw [allZ_congr (f := fun o => f o - eff [] o) (g := f) (fun o => by simp [eff, Lb.ef, sm])]
      simp
    rw [this]
    exact Ev.const _
  | succ d ih =>
    intro j f hd hj hf
    have hlt : j < t.length := by omega
    refine Ev.at1 ?_
    simp only [netting_Valid.l1, if_pos (show (j : Int) < (t.length : Int) by omega), if_pos (show (0 : Int) ≤ (j : Int) by omega), rd32 hlt, operator_ev, Option.bind_some]
    rw [List.drop_eq_getElem_cons hlt]
    generalize hx : t[j] = x
    have bad : ¬ okT x → decide ((∀ y ∈ x :: t.drop (j + 1), okT y) ∧ allZ (fun o => f o - eff (x :: t.drop (j + 1)) o)) = false := fun h => decide_eq_false (fun h' => h (all_cons.1 h'.1).1)
    by_cases h1 : 1 ≤ x.f0 ∧ x.f0 ≤ 8
    · simp only [h1, and_self, decide_true, if_true]
      by_cases h2 : 1 ≤ x.f1 ∧ x.f1 ≤ 8
      · simp only [h2, and_self, decide_true, if_true]
        by_cases h3 : x.f0 = x.f1
        · simp only [h3, if_true]
          rw [bad (fun h => h.2.2.1 h3)]
          exact Ev.const _
        · simp only [h3, if_false]
          by_cases h4 : x.f2 < 1
          · simp only [h4, if_true]
            rw [bad (fun h => by have := h.2.2.2.1; omega)]
            exact Ev.const _
          · simp only [h4, if_false]
            by_cases h5 : x.f2 > 1099511627776
            · simp only [h5, if_true]
              rw [bad (fun h => by have := h.2.2.2.2; omega)]
              exact Ev.const _
            · simp only [h5, if_false, tab_len, List.length_set]
              simp only [if_pos (show (0 : Int) ≤ x.f0 by omega), if_pos (show x.f0 < ((9 : Nat) : Int) by omega), if_pos (show (0 : Int) ≤ x.f1 by omega), if_pos (show x.f1 < ((9 : Nat) : Int) by omega), Option.bind_some]
              have b0 := hf x.f0
              have b1 := hf x.f1
              rw [tab_set f (by omega) (by omega), tab_rd f (by omega) (by omega), w64 (n := f x.f0 + x.f2) (by omega) (by omega)]
              rw [tab_rd _ (show 0 ≤ x.f1 by omega) (by omega), if_neg (fun h => h3 h.symm), w64 (n := f x.f1 - x.f2) (by omega) (by omega), tab_set _ (by omega) (by omega)]
              rw [w64 (n := (j : Int) + 1) (by omega) (by omega), cast1]
              have ih' := ih (j + 1) (fun o => if o = x.f1 then f x.f1 - x.f2 else if o = x.f0 then f x.f0 + x.f2 else f o) (by omega) (by omega) (fun o => by
                have := hf o
                by_cases e1 : o = x.f1
                · simp only [e1, if_true]; omega
                · by_cases e2 : o = x.f0
                  · simp only [e2, h3, if_true, if_false]; omega
                  · simp only [e1, e2, if_false]; omega)
              have e : ((∀ y ∈ x :: t.drop (j + 1), okT y) ∧ allZ (fun o => f o - eff (x :: t.drop (j + 1)) o)) ↔ ((∀ y ∈ t.drop (j + 1), okT y) ∧ allZ (fun o => (if o = x.f1 then f x.f1 - x.f2 else if o = x.f0 then f x.f0 + x.f2 else f o) - eff (t.drop (j + 1)) o)) := by
                rw [all_cons]
                have okx : okT x := ⟨h1, h2, h3, by omega, by omega⟩
                rw [allZ_congr (g := fun o => (if o = x.f1 then f x.f1 - x.f2 else if o = x.f0 then f x.f0 + x.f2 else f o) - eff (t.drop (j + 1)) o) (fun o => by
                  rw [eff_cons]
                  by_cases e1 : o = x.f1
                  · subst e1; simp only [if_true, h3, if_false]; omega
                  · by_cases e2 : o = x.f0
                    · subst e2; simp only [if_true, e1, if_false, show ¬ x.f1 = x.f0 from fun h => h3 h.symm]; omega
                    · simp only [e1, e2, if_false, show ¬ x.f1 = o from fun h => e1 h.symm, show ¬ x.f0 = o from fun h => e2 h.symm]; omega)]
                simp [okx]
              rw [decide_eq_decide.2 e]
              exact ih'
      · simp only [h2, decide_false, Bool.false_eq_true, if_false]
        rw [bad (fun h => h2 h.2.1)]
        exact Ev.const _
    · simp only [h1, decide_false, Bool.false_eq_true, if_false]
      rw [bad (fun h => h1 h.1)]
      exact Ev.const _
theorem bal_take (l : List S34) {i : Nat} (h : i < l.length) (o : Int) : balance (l.take (i + 1)) o = balance (l.take i) o + (if l[i].f0 = o then l[i].f1 else 0) := by
  rw [List.take_succ_eq_append_getElem h]
  show sm _ (_ ++ _) = _
  rw [sm_append]
  simp [sm]
  rfl
theorem bal_none {l : List S34} {o : Int} (h : ∀ x ∈ l, x.f0 ≠ o) : balance l o = 0 := sm_zero (fun x hx => if_neg (h x hx))
theorem bal_bound {l : List S34} (hb : ∀ x ∈ l, ¬ bad x) (hl : l.length ≤ 8) (o : Int) : -1099511627776 ≤ balance l o ∧ balance l o ≤ 1099511627776 := by
  have := sm_bound (f := fun s : S34 => if s.f0 = o then s.f1 else 0) (B := 137438953472) (l := l) (fun x hx => by
    have := hb x hx
    unfold bad at this
    by_cases e : x.f0 = o
    · simp only [e, if_true]; omega
    · simp only [e, if_false]; omega)
  have e : balance l o = sm (fun s : S34 => if s.f0 = o then s.f1 else 0) l := rfl
  omega
theorem V0_go (l : List S34) (t : List S32) (ht : t.length ≤ 1000) (hg : Good l) (d : Nat) : ∀ i : Nat, l.length - i = d → i ≤ l.length →
    Ev (fun k => netting_Valid.l0 k t (tab (balance (l.take i))) l (l.length : Int) (i : Int)) (decide (settles l t)) := by
  induction d with
  | zero =>
    intro i hd hi
    refine Ev.at1 ?_
    simp only [netting_Valid.l0, if_neg (show ¬ ((i : Int) < (l.length : Int)) by omega)]
    rw [List.take_of_length_le (by omega)]
    have := V1_go t ht t.length 0 (balance l) (by omega) (by omega) (fun o => by have := bal_bound hg.ok hg.len o; omega)
    rw [List.drop_zero] at this
    exact this
  | succ d ih =>
    intro i hd hi
    have hlt : i < l.length := by omega
    have h8 := hg.len
    have hx := hg.ok l[i] (List.getElem_mem hlt)
    unfold bad at hx
    refine Ev.at1 ?_
    simp only [netting_Valid.l0, if_pos (show (i : Int) < (l.length : Int) by omega), if_pos (show (0 : Int) ≤ (i : Int) by omega), rd34 hlt, tab_len]
    simp only [if_pos (show (0 : Int) ≤ l[i].f0 by omega), if_pos (show l[i].f0 < ((9 : Nat) : Int) by omega)]
    rw [tab_set _ (by omega) (by omega), w64 (n := (i : Int) + 1) (by omega) (by omega), cast1]
    have e : tab (fun o => if o = l[i].f0 then l[i].f1 else balance (l.take i) o) = tab (balance (l.take (i + 1))) := by
      refine tab_congr (fun o => ?_)
      rw [bal_take l hlt]
      by_cases e : o = l[i].f0
      · subst e
        rw [bal_none (fun x hx => ?_)]
        · simp
        · have hp := hg.ord
          rw [← List.take_append_drop i l] at hp
          have := (List.pairwise_append.1 hp).2.2 x hx l[i] (by rw [List.drop_eq_getElem_cons hlt]; exact List.mem_cons_self)
          omega
      · simp only [e, if_false, show ¬ l[i].f0 = o from fun h => e h.symm]
        omega
    rw [e]
    exact ih (i + 1) (by omega) (by omega)
theorem Valid_ev {l : List S34} {t : List S32} (hg : Good l) (ht : t.length ≤ 1000) : Ev (fun k => netting_Valid.f k l t) (decide (settles l t)) := by
  unfold netting_Valid.f
  simp only [if_pos (show 9 ≤ 35184372088832 by decide)]
  rw [tab_zero]
  have := V0_go l t ht hg l.length 0 (by omega) (by omega)
  have e : tab (balance (l.take 0)) = tab (fun _ => 0) := tab_congr (fun o => by simp [Lb.bal, sm])
  rw [e] at this
  exact this

/-! ### The reference's -/
theorem R2_go (f : Int → Int) (d : Nat) : ∀ i : Nat, 9 - i = d → i ≤ 9 → (∀ j : Nat, j < i → f j = 0) → Ev (fun k => skiarearef37_Valid.l2 k (tab f) (i : Int)) (decide (allZ f)) := by
  induction d with
  | zero =>
    intro i hd hi h
    refine Ev.at1 ?_
    simp only [skiarearef37_Valid.l2, tab_len, if_neg (show ¬ ((i : Int) < ((9 : Nat) : Int)) by omega)]
    rw [dec_true (p := allZ f) (fun j hj => h j (by omega))]
    exact Ev.const _
  | succ d ih =>
    intro i hd hi h
    refine Ev.at1 ?_
    simp only [skiarearef37_Valid.l2, tab_len, if_pos (show (i : Int) < ((9 : Nat) : Int) by omega), if_pos (show (0 : Int) ≤ (i : Int) by omega)]
    rw [tab_rd f (by omega) (by omega), w64 (by omega) (by omega), cast1]
    by_cases hz : f i = 0
    · simp only [hz, if_true]
      refine ih (i + 1) (by omega) (by omega) (fun j hj => ?_)
      by_cases e : j = i
      · rw [e]; exact hz
      · exact h j (by omega)
    · simp only [hz, if_false]
      rw [decide_eq_false (fun h' : allZ f => hz (h' i (by omega)))]
      exact Ev.const _
theorem R1_go (l : List S34) (hb : ∀ x ∈ l, ¬ bad x) (hl : l.length ≤ 8) (d : Nat) : ∀ (i : Nat) (f : Int → Int), l.length - i = d → i ≤ l.length → (∀ o, -1200000000000000 - i * 137438953472 ≤ f o ∧ f o ≤ 1200000000000000 + i * 137438953472) →
    Ev (fun k => skiarearef37_Valid.l1 k l (tab f) (i : Int)) (decide (allZ (fun o => f o - balance (l.drop i) o))) := by
  induction d with
  | zero =>
    intro i f hd hi hf
    refine Ev.at1 ?_
    simp only [skiarearef37_Valid.l1, if_neg (show ¬ ((i : Int) < (l.length : Int)) by omega)]
    rw [List.drop_of_length_le (by omega)]
    have := R2_go f 9 0 (by omega) (by omega) (by omega)
    rw [decide_eq_decide.2 (allZ_congr (f := fun o => f o - balance [] o) (g := f) (fun o => by simp [Lb.bal, sm]))]
    exact this
  | succ d ih =>
    intro i f hd hi hf
    have hlt : i < l.length := by omega
    have hx := hb l[i] (List.getElem_mem hlt)
    unfold bad at hx
    refine Ev.at1 ?_
    simp only [skiarearef37_Valid.l1, if_pos (show (i : Int) < (l.length : Int) by omega), if_pos (show (0 : Int) ≤ (i : Int) by omega), rd34 hlt, tab_len]
    simp only [if_pos (show (0 : Int) ≤ l[i].f0 by omega), if_pos (show l[i].f0 < ((9 : Nat) : Int) by omega)]
    have b := hf l[i].f0
    rw [tab_rd f (by omega) (by omega), w64 (n := f l[i].f0 - l[i].f1) (by omega) (by omega), tab_set _ (by omega) (by omega), w64 (n := (i : Int) + 1) (by omega) (by omega), cast1]
    have ih' := ih (i + 1) (fun o => if o = l[i].f0 then f l[i].f0 - l[i].f1 else f o) (by omega) (by omega) (fun o => by
      have := hf o
      by_cases e : o = l[i].f0
      · simp only [e, if_true]; omega
      · simp only [e, if_false]; omega)
    rw [List.drop_eq_getElem_cons hlt]
    rw [decide_eq_decide.2 (allZ_congr (f := fun o => f o - balance (l[i] :: l.drop (i + 1)) o) (g := fun o => (if o = l[i].f0 then f l[i].f0 - l[i].f1 else f o) - balance (l.drop (i + 1)) o) (fun o => by
      have e0 : balance (l[i] :: l.drop (i + 1)) o = (if l[i].f0 = o then l[i].f1 else 0) + balance (l.drop (i + 1)) o := rfl
      rw [e0]
      by_cases e : o = l[i].f0
      · subst e; simp only [if_true]; omega
      · simp only [e, if_false, show ¬ l[i].f0 = o from fun h => e h.symm]; omega))]
    exact ih'
theorem R0_go (l : List S34) (hb : ∀ x ∈ l, ¬ bad x) (hl8 : l.length ≤ 8) (t : List S32) (hl : t.length ≤ 1000) (d : Nat) : ∀ (j : Nat) (f : Int → Int), t.length - j = d → j ≤ t.length → (∀ o, -((j + 2) * 1099511627776) ≤ f o ∧ f o ≤ (j + 2) * 1099511627776) →
    Ev (fun k => skiarearef37_Valid.l0 k l t (tab f) (j : Int)) (decide ((∀ x ∈ t.drop j, okT x) ∧ allZ (fun o => balance l o - (f o + eff (t.drop j) o)))) := by
  induction d with
  | zero =>
    intro j f hd hj hf
    refine Ev.at1 ?_
    simp only [skiarearef37_Valid.l0, if_neg (show ¬ ((j : Int) < (t.length : Int)) by omega)]
    rw [List.drop_of_length_le (by omega)]
    have := R1_go l hb hl8 l.length 0 f (by omega) (by omega) (fun o => by have := hf o; omega)
    rw [List.drop_zero] at this
    have e : ((∀ x ∈ ([] : List S32), okT x) ∧ allZ (fun o => balance l o - (f o + eff [] o))) ↔ allZ (fun o => f o - balance l o) := by
      have : ∀ o, eff [] o = 0 := fun o => rfl
      constructor
      · rintro ⟨_, h⟩ i hi
        have h1 : balance l i - (f i + 0) = 0 := h i hi
        show f i - balance l i = 0
        omega
      · intro h
        refine ⟨by simp, fun i hi => ?_⟩
        have h1 : f i - balance l i = 0 := h i hi
        show balance l i - (f i + 0) = 0
        omega
    rw [decide_eq_decide.2 e]
    exact this
  | succ d ih =>
    intro j f hd hj hf
    have hlt : j < t.length := by omega
    refine Ev.at1 ?_
    simp only [skiarearef37_Valid.l0, if_pos (show (j : Int) < (t.length : Int) by omega), if_pos (show (0 : Int) ≤ (j : Int) by omega), rd32 hlt]
    rw [List.drop_eq_getElem_cons hlt]
    generalize hx : t[j] = x
    have bad : ¬ okT x → decide ((∀ y ∈ x :: t.drop (j + 1), okT y) ∧ allZ (fun o => balance l o - (f o + eff (x :: t.drop (j + 1)) o))) = false := fun h => decide_eq_false (fun h' => h (all_cons.1 h'.1).1)
    by_cases g1 : x.f0 < 1
    · simp only [g1, if_true]; rw [bad (fun h => by have := h.1; omega)]; exact Ev.const _
    simp only [g1, if_false]
    by_cases g2 : x.f0 > 8
    · simp only [g2, if_true]; rw [bad (fun h => by have := h.1; omega)]; exact Ev.const _
    simp only [g2, if_false]
    by_cases g3 : x.f1 < 1
    · simp only [g3, if_true]; rw [bad (fun h => by have := h.2.1; omega)]; exact Ev.const _
    simp only [g3, if_false]
    by_cases g4 : x.f1 > 8
    · simp only [g4, if_true]; rw [bad (fun h => by have := h.2.1; omega)]; exact Ev.const _
    simp only [g4, if_false]
    by_cases h3 : x.f0 = x.f1
    · simp only [h3, if_true]
      rw [bad (fun h => h.2.2.1 h3)]
      exact Ev.const _
    simp only [h3, if_false]
    by_cases h4 : x.f2 < 1
    · simp only [h4, if_true]
      rw [bad (fun h => by have := h.2.2.2.1; omega)]
      exact Ev.const _
    simp only [h4, if_false]
    by_cases h5 : x.f2 > 1099511627776
    · simp only [h5, if_true]
      rw [bad (fun h => by have := h.2.2.2.2; omega)]
      exact Ev.const _
    simp only [h5, if_false, tab_len, List.length_set]
    simp only [if_pos (show (0 : Int) ≤ x.f0 by omega), if_pos (show x.f0 < ((9 : Nat) : Int) by omega), if_pos (show (0 : Int) ≤ x.f1 by omega), if_pos (show x.f1 < ((9 : Nat) : Int) by omega), Option.bind_some]
    have b0 := hf x.f0
    have b1 := hf x.f1
    rw [tab_set f (by omega) (by omega), tab_rd f (by omega) (by omega), w64 (n := f x.f0 - x.f2) (by omega) (by omega)]
    rw [tab_rd _ (show 0 ≤ x.f1 by omega) (by omega), if_neg (fun h => h3 h.symm), w64 (n := f x.f1 + x.f2) (by omega) (by omega), tab_set _ (by omega) (by omega)]
    rw [w64 (n := (j : Int) + 1) (by omega) (by omega), cast1]
    have ih' := ih (j + 1) (fun o => if o = x.f1 then f x.f1 + x.f2 else if o = x.f0 then f x.f0 - x.f2 else f o) (by omega) (by omega) (fun o => by
      have := hf o
      by_cases e1 : o = x.f1
      · simp only [e1, if_true]; omega
      · by_cases e2 : o = x.f0
        · simp only [e2, h3, if_true, if_false]; omega
        · simp only [e1, e2, if_false]; omega)
    have e : ((∀ y ∈ x :: t.drop (j + 1), okT y) ∧ allZ (fun o => balance l o - (f o + eff (x :: t.drop (j + 1)) o))) ↔ ((∀ y ∈ t.drop (j + 1), okT y) ∧ allZ (fun o => balance l o - ((if o = x.f1 then f x.f1 + x.f2 else if o = x.f0 then f x.f0 - x.f2 else f o) + eff (t.drop (j + 1)) o))) := by
      rw [all_cons]
      have okx : okT x := ⟨⟨by omega, by omega⟩, ⟨by omega, by omega⟩, h3, by omega, by omega⟩
      rw [allZ_congr (g := fun o => balance l o - ((if o = x.f1 then f x.f1 + x.f2 else if o = x.f0 then f x.f0 - x.f2 else f o) + eff (t.drop (j + 1)) o)) (fun o => by
        rw [eff_cons]
        by_cases e1 : o = x.f1
        · subst e1; simp only [if_true, h3, if_false]; omega
        · by_cases e2 : o = x.f0
          · subst e2; simp only [if_true, e1, if_false, show ¬ x.f1 = x.f0 from fun h => h3 h.symm]; omega
          · simp only [e1, e2, if_false, show ¬ x.f1 = o from fun h => e1 h.symm, show ¬ x.f0 = o from fun h => e2 h.symm]; omega)]
      simp [okx]
    rw [decide_eq_decide.2 e]
    exact ih'
theorem RValid_ev {l : List S34} {t : List S32} (hg : Good l) (ht : t.length ≤ 1000) : Ev (fun k => skiarearef37_Valid.f k l t) (decide (settles l t)) := by
  unfold skiarearef37_Valid.f
  simp only [if_pos (show 9 ≤ 35184372088832 by decide)]
  rw [tab_zero]
  have := R0_go l hg.ok hg.len t ht t.length 0 (fun _ => 0) (by omega) (by omega) (fun o => by omega)
  rw [List.drop_zero] at this
  rw [decide_eq_decide.2 (show settles l t ↔ _ from and_congr_right (fun _ => allZ_congr (g := fun o => balance l o - (0 + eff t o)) (fun o => by omega)))]
  exact this
end Go.Proofs.Ytdljjkjnlcdhbaa.Nt
