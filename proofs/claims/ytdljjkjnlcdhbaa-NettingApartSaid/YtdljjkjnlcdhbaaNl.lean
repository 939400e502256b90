/- Netting: the reference's Least: the positions less the greatest number of groups. -/
import Derived.Test.YtdljjkjnlcdhbaaMx11
import Derived.Test.YtdljjkjnlcdhbaaNs
namespace Go.Proofs.Ytdljjkjnlcdhbaa.Nt
open Go.RowKit Go.Proofs.Ytdljjkjnlcdhbaa.M Go.Proofs.YtdljjkjnlcdhbaaW.PrintWords Go.Proofs.YtdljjkjnlcdhbaaW.PrintLast Go.Proofs.YtdljjkjnlcdhbaaW.PrintMore Go.Proofs.Ytdljjkjnlcdhbaa.Mk
set_option linter.unusedSimpArgs false
set_option linter.unusedVariables false

theorem df_add (m : Nat) : ∀ {s : Nat}, Sub s m → df m s + s = m := by
  induction m using Nat.strongRecOn with
  | ind m ih =>
    intro s h
    by_cases h0 : m = 0
    · subst h0
      have := h.le
      have : s = 0 := by omega
      subst this
      rfl
    · have := ih (m / 2) (by omega) h.half
      have h1 := df_half m s
      have h2 := df_low m s
      have h3 := h.low
      omega
theorem sub_pow {m i : Nat} (h : m.testBit i = true) : Sub (2 ^ i) m := by
  intro j hj
  rw [Nat.testBit_two_pow] at hj
  have : i = j := by simpa using hj
  exact this ▸ h
theorem bit_of {m i : Nat} (h : Sub (2 ^ i) m) : m.testBit i = true := h i (by simp [Nat.testBit_two_pow])
theorem has_bit {m : Nat} (h : m ≠ 0) : ∃ i, m.testBit i = true := by
  by_cases h1 : ∃ i, m.testBit i = true
  · exact h1
  · exact absurd (Nat.eq_of_testBit_eq (fun i => by
      have : ¬ m.testBit i = true := fun h => h1 ⟨i, h⟩
      simp [this])) h
theorem bit_lt {m n i : Nat} (hm : m < 2 ^ n) (h : m.testBit i = true) : i < n := by
  by_cases hi : i < n
  · exact hi
  · have := Nat.testBit_lt_two_pow (x := m) (i := i) (Nat.lt_of_lt_of_le hm (Nat.pow_le_pow_right (by omega) (by omega)))
    rw [this] at h; cases h
theorem tabN_congr {N : Nat} {f g : Nat → Int} (h : ∀ i, i < N → f i = g i) : tabN N f = tabN N g := by
  unfold tabN
  exact List.map_congr_left (fun i hi => h i (List.mem_range.1 hi))

section
variable {L : List S34}
theorem S_take (m : Nat) {i : Nat} (h : i < L.length) : S (L.take (i + 1)) m = S (L.take i) m + (if m.testBit i = true then L[i].f1 else 0) := by
  show sm am (pk _ m) = _
  rw [pk_take L m i h, sm_append]
  split <;> simp [sm]
theorem S_bound (hs : ∀ x ∈ L, small x) (hl : L.length ≤ 8) (i m : Nat) : -1099511627776 ≤ S (L.take i) m ∧ S (L.take i) m ≤ 1099511627776 := by
  have := sm_bound (f := am) (B := 137438953472) (l := pk (L.take i) m) (fun x hx => hs x (List.mem_of_mem_take (pk_mem hx)))
  have h2 := pk_len (L.take i) m
  rw [List.length_take] at h2
  show _ ≤ sm am _ ∧ sm am _ ≤ _
  omega
def upto (L : List S34) (u : Nat) : Nat → Int := fun m => if m < u then S L m else 0
theorem sums1_go (N m : Nat) (hN : N ≤ 256) (hm : m < N) (hs : ∀ x ∈ L, small x) (hl : L.length ≤ 8) (r : List Int)
    (K : Ev (fun k => skiarearef37_sums.l0 k L (tabN N (upto L (m + 1))) ((m + 1 : Nat) : Int)) r) (d : Nat) : ∀ i : Nat, L.length - i = d → i ≤ L.length →
    Ev (fun k => skiarearef37_sums.l1 k L (tabN N (upd (upto L m) m (S (L.take i) m))) (m : Int) (i : Int)) r := by
  induction d with
  | zero =>
    intro i hd hi
    refine Ev.at1 ?_
    simp only [skiarearef37_sums.l1, if_neg (show ¬ ((i : Int) < (L.length : Int)) by omega)]
    rw [List.take_of_length_le (by omega), w64 (n := (m : Int) + 1) (by omega) (by omega), cast1]
    have e : tabN N (upd (upto L m) m (S L m)) = tabN N (upto L (m + 1)) := tabN_congr (fun j hj => by
      by_cases e : j = m
      · subst e; rw [upd_self]; simp [upto]
      · rw [upd_ne _ _ e]
        unfold upto
        by_cases h : j < m
        · rw [if_pos h, if_pos (by omega)]
        · rw [if_neg h, if_neg (by omega)])
    rw [e]
    exact K
  | succ d ih =>
    intro i hd hi
    have hlt : i < L.length := by omega
    have ih' := ih (i + 1) (by omega) (by omega)
    rw [S_take m hlt] at ih'
    have hb := S_bound hs hl i m
    have hx := hs L[i] (List.getElem_mem hlt)
    unfold small at hx
    refine Ev.at1 ?_
    simp only [skiarearef37_sums.l1, if_pos (show (i : Int) < (L.length : Int) by omega), if_pos (show (0 : Int) ≤ (i : Int) by omega), rd34 hlt, tabN_len]
    rw [w64 (n := (i : Int) + 1) (by omega) (by omega), cast1]
    by_cases hbit : m.testBit i = true
    · simp only [if_pos ((bit_i64 (m := m) (i := i) (by omega) (by omega)).2 hbit), if_pos (show (0 : Int) ≤ (m : Int) by omega), if_pos (show (m : Int) < (N : Int) by omega)]
      rw [tabN_rd _ hm, upd_self, w64 (n := S (L.take i) m + L[i].f1) (by omega) (by omega), tabN_set]
      rw [if_pos hbit] at ih'
      have e : upd (upd (upto L m) m (S (L.take i) m)) m (S (L.take i) m + L[i].f1) = upd (upto L m) m (S (L.take i) m + L[i].f1) := by
        funext j
        unfold upd
        split <;> rfl
      rw [e]
      exact ih'
    · simp only [if_neg (fun h => hbit ((bit_i64 (m := m) (i := i) (by omega) (by omega)).1 h))]
      rw [if_neg hbit, Int.add_zero] at ih'
      exact ih'
theorem sums0_go (N : Nat) (hN : N ≤ 256) (hs : ∀ x ∈ L, small x) (hl : L.length ≤ 8) (d : Nat) : ∀ m : Nat, N - m = d → m ≤ N →
    Ev (fun k => skiarearef37_sums.l0 k L (tabN N (upto L m)) (m : Int)) (tabN N (S L)) := by
  induction d with
  | zero =>
    intro m hd hm
    refine Ev.at1 ?_
    simp only [skiarearef37_sums.l0, tabN_len, if_neg (show ¬ ((m : Int) < (N : Int)) by omega)]
    rw [tabN_congr (f := upto L m) (g := S L) (fun j hj => by unfold upto; rw [if_pos (by omega)])]
    exact Ev.const _
  | succ d ih =>
    intro m hd hm
    have hlt : m < N := by omega
    refine Ev.at1 ?_
    simp only [skiarearef37_sums.l0, tabN_len, if_pos (show (m : Int) < (N : Int) by omega)]
    have := sums1_go N m hN hlt hs hl _ (ih (m + 1) (by omega) (by omega)) L.length 0 (by omega) (by omega)
    have e : upd (upto L m) m (S (L.take 0) m) = upto L m := by
      funext j
      by_cases e : j = m
      · subst e; rw [upd_self]; simp [upto, S, pk, sm]
      · rw [upd_ne _ _ e]
    rw [e] at this
    exact this
theorem sums_ev (hs : ∀ x ∈ L, small x) (hl : L.length ≤ 8) : Ev (fun k => skiarearef37_sums.f k L) (tabN (2 ^ L.length) (S L)) := by
  have hp := pow_le hl
  unfold skiarearef37_sums.f
  rw [shl_one _ (by omega)]
  simp only [if_pos (show (0 : Int) ≤ ((2 ^ L.length : Nat) : Int) by omega), Int.toNat_natCast, if_pos (show 2 ^ L.length ≤ 35184372088832 by omega), tabN_zero]
  have := sums0_go (2 ^ L.length) hp.2 hs hl (2 ^ L.length - 1) 1 rfl hp.1
  rw [tabN_congr (f := upto L 1) (g := fun _ => 0) (fun j hj => by
    unfold upto
    split
    · have : j = 0 := by omega
      subst this
      show sm am (pk L 0) = 0
      rw [pk_nil]; rfl
    · rfl)] at this
  exact this

/-! ### The most groups that can be split off one after the other -/
def one0 (L : List S34) (m : Nat) : Int := if S L m = 0 then 1 else 0
structure QI (L : List S34) (q : Nat → Int) (u : Nat) : Prop where
  z : q 0 = 0
  b : ∀ m, 0 ≤ q m ∧ q m ≤ m
  un : ∀ m, u ≤ m → q m = 0
  up : ∀ m i, 0 < m → m < u → m.testBit i = true → q (df m (2 ^ i)) + one0 L m ≤ q m
  at_ : ∀ m, 0 < m → m < u → ∃ i, m.testBit i = true ∧ q m = q (df m (2 ^ i)) + one0 L m
structure Mid (q : Nat → Int) (m i : Nat) (v : Int) : Prop where
  up : ∀ j, j < i → m.testBit j = true → q (df m (2 ^ j)) ≤ v
  at_ : (v = 0 ∧ ∀ j, j < i → ¬ m.testBit j = true) ∨ ∃ j, j < i ∧ m.testBit j = true ∧ v = q (df m (2 ^ j))
theorem one0_01 (m : Nat) : one0 L m = 0 ∨ one0 L m = 1 := by unfold one0; split <;> simp
theorem bit_df {m i : Nat} (h : m.testBit i = true) : df m (2 ^ i) < m := df_lt (sub_pow h) (by have : 0 < 2 ^ i := Nat.pow_pos (by omega); omega)
theorem QI.next {q : Nat → Int} {m n : Nat} {v : Int} (h : QI L q m) (hm0 : 0 < m) (hm : m < 2 ^ n) (hv : Mid q m n v) : QI L (upd q m (v + one0 L m)) (m + 1) := by
  have h1 := one0_01 (L := L) m
  have hvb : 0 ≤ v ∧ v + 1 ≤ m := by
    rcases hv.at_ with ⟨rfl, hno⟩ | ⟨j, hj, hb, rfl⟩
    · omega
    · have := h.b (df m (2 ^ j))
      have := bit_df hb
      omega
  refine ⟨by rw [upd_ne _ _ (by omega)]; exact h.z, fun j => ?_, fun j hj => ?_, fun j i h0 hj hb => ?_, fun j h0 hj => ?_⟩
  · by_cases e : j = m
    · subst e; rw [upd_self]; omega
    · rw [upd_ne _ _ e]; exact h.b j
  · rw [upd_ne _ _ (by omega)]; exact h.un j (by omega)
  · have hd := bit_df hb
    rw [upd_ne _ _ (show df j (2 ^ i) ≠ m by omega)]
    by_cases e : j = m
    · subst e
      rw [upd_self]
      have := hv.up i (bit_lt hm hb) hb
      omega
    · rw [upd_ne _ _ e]; exact h.up j i h0 (by omega) hb
  · by_cases e : j = m
    · subst e
      rcases hv.at_ with ⟨rfl, hno⟩ | ⟨i, hi, hb, rfl⟩
      · obtain ⟨i, hb⟩ := has_bit (show j ≠ 0 by omega)
        exact absurd hb (hno i (bit_lt hm hb))
      · have hd := bit_df hb
        exact ⟨i, hb, by rw [upd_self, upd_ne _ _ (by omega)]⟩
    · obtain ⟨i, hb, he⟩ := h.at_ j h0 (by omega)
      have hd := bit_df hb
      exact ⟨i, hb, by rw [upd_ne _ _ e, upd_ne _ _ (by omega)]; exact he⟩
variable {Q : List Int → Prop}
theorem most1_go (hl : L.length ≤ 8) (m : Nat) (hm0 : 0 < m) (hm : m < 2 ^ L.length) {q : Nat → Int} (hq : QI L q m)
    (K : ∀ q, QI L q (m + 1) → ∃ r, Q r ∧ Ev (fun k => skiarearef37_groups.l0 k L (tabN (2 ^ L.length) (S L)) (tabN (2 ^ L.length) q) ((m + 1 : Nat) : Int)) r) (d : Nat) : ∀ (i : Nat) (v : Int), L.length - i = d → i ≤ L.length → Mid q m i v →
    ∃ r, Q r ∧ Ev (fun k => skiarearef37_groups.l1 k L (tabN (2 ^ L.length) (S L)) (tabN (2 ^ L.length) (upd q m v)) (m : Int) (i : Int)) r := by
  have hp := pow_le hl
  induction d with
  | zero =>
    intro i v hd hi hv
    have : i = L.length := by omega
    subst this
    obtain ⟨r, hr, he⟩ := K _ (hq.next hm0 hm hv)
    have hvb : 0 ≤ v ∧ v ≤ m := by
      rcases hv.at_ with ⟨rfl, hno⟩ | ⟨j, hj, hb, rfl⟩
      · omega
      · have := hq.b (df m (2 ^ j))
        have := bit_df hb
        omega
    refine ⟨r, hr, Ev.at1 ?_⟩
    simp only [skiarearef37_groups.l1, if_neg (show ¬ ((L.length : Int) < (L.length : Int)) by omega), tabN_len, if_pos (show (0 : Int) ≤ (m : Int) by omega), if_pos (show (m : Int) < ((2 ^ L.length : Nat) : Int) by omega)]
    rw [tabN_rd _ hm, tabN_rd _ hm, upd_self, w64 (n := (m : Int) + 1) (by omega) (by omega), cast1]
    have ee : ∀ z, upd (upd q m v) m z = upd q m z := fun z => by funext j; unfold upd; split <;> rfl
    unfold one0 at he
    by_cases hz : S L m = 0
    · simp only [hz, if_true]
      rw [w64 (n := v + 1) (by omega) (by omega), tabN_set, ee]
      rw [if_pos hz] at he
      exact he
    · simp only [hz, if_false]
      rw [if_neg hz, Int.add_zero] at he
      exact he
  | succ d ih =>
    intro i v hd hi hv
    have hlt : i < L.length := by omega
    by_cases hbit : m.testBit i = true
    · have hdm := bit_df hbit
      have hb := hq.b (df m (2 ^ i))
      obtain ⟨r, hr, he⟩ := ih (i + 1) (mx v (q (df m (2 ^ i)))) (by omega) (by omega) ⟨fun j hj hjb => by
          by_cases e : j = i
          · subst e; unfold mx; split <;> omega
          · have := hv.up j (by omega) hjb
            unfold mx; split <;> omega, by
          by_cases hc : v < q (df m (2 ^ i))
          · right
            exact ⟨i, by omega, hbit, by unfold mx; rw [if_pos hc]⟩
          · rcases hv.at_ with ⟨h0, hno⟩ | ⟨j, hj, hb2, hjv⟩
            · right
              exact ⟨i, by omega, hbit, by unfold mx; rw [if_neg hc]; omega⟩
            · right
              exact ⟨j, by omega, hb2, by unfold mx; rw [if_neg hc]; exact hjv⟩⟩
      refine ⟨r, hr, Ev.at1 ?_⟩
      have e1 : wrap64 ((m : Int) - shl .i64 1 (i : Int)) = ((df m (2 ^ i) : Nat) : Int) := by
        have h2 := df_add m (sub_pow hbit)
        rw [shl_one i (by omega)]
        generalize 2 ^ i = z at *
        rw [w64 (by omega) (by omega)]
        omega
      simp only [skiarearef37_groups.l1, if_pos (show (i : Int) < (L.length : Int) by omega), if_pos (show (0 : Int) ≤ (i : Int) by omega), if_pos ((bit_i64 (m := m) (i := i) (by omega) (by omega)).2 hbit), tabN_len, if_pos (show (0 : Int) ≤ (m : Int) by omega), if_pos (show (m : Int) < ((2 ^ L.length : Nat) : Int) by omega), e1,
        if_pos (show (0 : Int) ≤ ((df m (2 ^ i) : Nat) : Int) by omega), if_pos (show ((df m (2 ^ i) : Nat) : Int) < ((2 ^ L.length : Nat) : Int) by omega)]
      rw [tabN_rd _ hm, tabN_rd _ (by omega), upd_self, upd_ne _ _ (by omega), tabN_set, w64 (n := (i : Int) + 1) (by omega) (by omega), cast1]
      have ee : ∀ z, upd (upd q m v) m z = upd q m z := fun z => by funext j; unfold upd; split <;> rfl
      rw [ee]
      exact he
    · obtain ⟨r, hr, he⟩ := ih (i + 1) v (by omega) (by omega) ⟨fun j hj hjb => by
          by_cases e : j = i
          · subst e; exact absurd hjb hbit
          · exact hv.up j (by omega) hjb, by
          rcases hv.at_ with ⟨h0, hno⟩ | ⟨j, hj, hb2, hjv⟩
          · left
            refine ⟨h0, fun j hj => ?_⟩
            by_cases e : j = i
            · subst e; exact hbit
            · exact hno j (by omega)
          · right; exact ⟨j, by omega, hb2, hjv⟩⟩
      refine ⟨r, hr, Ev.at1 ?_⟩
      simp only [skiarearef37_groups.l1, if_pos (show (i : Int) < (L.length : Int) by omega), if_pos (show (0 : Int) ≤ (i : Int) by omega), if_neg (fun h => hbit ((bit_i64 (m := m) (i := i) (by omega) (by omega)).1 h))]
      rw [w64 (n := (i : Int) + 1) (by omega) (by omega), cast1]
      exact he
theorem most0_go (hl : L.length ≤ 8) (d : Nat) : ∀ (m : Nat) (q : Nat → Int), 2 ^ L.length - m = d → 0 < m → m ≤ 2 ^ L.length → QI L q m →
    ∃ r, (∃ q, r = tabN (2 ^ L.length) q ∧ QI L q (2 ^ L.length)) ∧ Ev (fun k => skiarearef37_groups.l0 k L (tabN (2 ^ L.length) (S L)) (tabN (2 ^ L.length) q) (m : Int)) r := by
  have hp := pow_le hl
  induction d with
  | zero =>
    intro m q hd h0 hm h
    have : m = 2 ^ L.length := by omega
    refine ⟨_, ⟨q, rfl, this ▸ h⟩, Ev.at1 ?_⟩
    simp only [skiarearef37_groups.l0, tabN_len, if_neg (show ¬ ((m : Int) < ((2 ^ L.length : Nat) : Int)) by omega)]
    exact Ev.const _
  | succ d ih =>
    intro m q hd h0 hm h
    have hlt : m < 2 ^ L.length := by omega
    obtain ⟨r, hr, he⟩ := most1_go (Q := fun r => ∃ q, r = tabN (2 ^ L.length) q ∧ QI L q (2 ^ L.length)) hl m h0 hlt h (fun q hq => ih (m + 1) q (by omega) (by omega) (by omega) hq) L.length 0 0 (by omega) (by omega) ⟨fun j hj => by omega, .inl ⟨rfl, fun j hj => by omega⟩⟩
    refine ⟨r, hr, Ev.at1 ?_⟩
    simp only [skiarearef37_groups.l0, tabN_len, if_pos (show (m : Int) < ((2 ^ L.length : Nat) : Int) by omega)]
    have e : upd q m 0 = q := by
      funext j
      by_cases e : j = m
      · subst e; rw [upd_self]; exact (h.un j (Nat.le_refl _)).symm
      · rw [upd_ne _ _ e]
    rw [e] at he
    exact he
theorem most_ev (hs : ∀ x ∈ L, small x) (hl : L.length ≤ 8) : ∃ q, QI L q (2 ^ L.length) ∧ Ev (fun k => skiarearef37_groups.f k L) (tabN (2 ^ L.length) q) := by
  have hp := pow_le hl
  obtain ⟨r, ⟨q, rfl, hq⟩, he⟩ := most0_go hl (2 ^ L.length - 1) 1 (fun _ => 0) rfl (by omega) hp.1 ⟨rfl, fun m => ⟨Int.le_refl _, by omega⟩, fun _ _ => rfl, fun m i h0 h1 => by omega, fun m h0 h1 => by omega⟩
  refine ⟨q, hq, ?_⟩
  unfold skiarearef37_groups.f
  refine Ev.bind (sums_ev hs hl) ?_
  simp only [tabN_len, if_pos (show (0 : Int) ≤ ((2 ^ L.length : Nat) : Int) by omega), Int.toNat_natCast, if_pos (show 2 ^ L.length ≤ 35184372088832 by omega), tabN_zero]
  exact he

/-! ### That is the greatest number of groups -/
theorem QI.mono {q : Nat → Int} {N : Nat} (h : QI L q N) (y : Nat) : ∀ {x : Nat}, y < N → Sub x y → q x ≤ q y := by
  induction y using Nat.strongRecOn with
  | ind y ih =>
    intro x hy hs
    by_cases e : df y x = 0
    · rw [eq_of_df hs e]; exact Int.le_refl _
    · obtain ⟨i, hi⟩ := has_bit e
      rw [df_bit, Bool.and_eq_true] at hi
      have hlt := bit_df hi.1
      have h1 := ih _ hlt (x := x) (by omega) (fun j hj => by
        rw [df_bit, hs j hj, Nat.testBit_two_pow]
        by_cases e : i = j
        · subst e; rw [hj] at hi; simp at hi
        · simp [e])
      have h2 := h.up y i (by omega) hy hi.1
      have h3 := one0_01 (L := L) y
      omega
theorem QI.parts_le {q : Nat → Int} {N : Nat} (h : QI L q N) : ∀ {k m : Nat}, m < N → Parts am L m k → (k : Int) ≤ q m := by
  intro k
  induction k with
  | zero => intro m _ _; exact (h.b m).1
  | succ k ih =>
    intro m hm hp
    have hz := hp.sum
    obtain ⟨s, h1, h2, h3, h4⟩ := hp
    have hlt := df_lt h1 h2
    have := ih (by omega) h4
    obtain ⟨i, hi⟩ := has_bit h2
    have hd := bit_df (h1 i hi)
    have h5 := h.mono (df m (2 ^ i)) (x := df m s) (by omega) (fun j hj => by
      rw [df_bit, Bool.and_eq_true] at hj
      rw [df_bit, hj.1, Nat.testBit_two_pow]
      by_cases e : i = j
      · subst e; rw [hi] at hj; simp at hj
      · simp [e])
    have h6 := h.up m i (by omega) hm (h1 i hi)
    have h7 : one0 L m = 1 := if_pos hz
    omega
theorem QI.parts {q : Nat → Int} {N : Nat} (h : QI L q N) (m : Nat) : m < N → ∃ m0, Sub m0 m ∧ (S L m = 0 → m0 = m) ∧ Parts am L m0 (q m).toNat := by
  induction m using Nat.strongRecOn with
  | ind m ih =>
    intro hm
    by_cases h0 : m = 0
    · subst h0
      exact ⟨0, Sub.refl 0, fun _ => rfl, by rw [h.z]; rfl⟩
    · obtain ⟨i, hb, he⟩ := h.at_ m (by omega) hm
      have hd := bit_df hb
      obtain ⟨m0, g1, g2, g3⟩ := ih _ hd (by omega)
      have hsub : Sub m0 m := g1.trans (Sub.df m _)
      have hbb := h.b (df m (2 ^ i))
      unfold one0 at he
      by_cases hz : S L m = 0
      · rw [if_pos hz] at he
        refine ⟨m, Sub.refl m, fun _ => rfl, ?_⟩
        have e : (q m).toNat = (q (df m (2 ^ i))).toNat + 1 := by omega
        rw [e]
        refine ⟨df m m0, Sub.df m m0, fun e => ?_, ?_, by rw [df_df hsub]; exact g3⟩
        · have := eq_of_df hsub e
          subst this
          have := g1 i hb
          rw [df_bit, Nat.testBit_two_pow] at this
          simp at this
        · have h1 := pk_split am L hsub
          have h2 := g3.sum
          have h3 : sm am (pk L m) = 0 := hz
          omega
      · rw [if_neg hz, Int.add_zero] at he
        exact ⟨m0, hsub, fun e => absurd e hz, by rw [he]; exact g3⟩
end

/-! ### Least -/
theorem open_go (l : List S34) (hl : l.length ≤ 8) (d : Nat) : ∀ i : Nat, l.length - i = d → i ≤ l.length →
    Ev (fun k => skiarearef37_open.l0 k l ((l.take i).filter isNz) (i : Int)) (l.filter isNz) := by
  induction d with
  | zero =>
    intro i hd hi
    refine Ev.at1 ?_
    simp only [skiarearef37_open.l0, if_neg (show ¬ ((i : Int) < (l.length : Int)) by omega)]
    rw [List.take_of_length_le (by omega)]
    exact Ev.const _
  | succ d ih =>
    intro i hd hi
    have hlt : i < l.length := by omega
    have ih' := ih (i + 1) (by omega) (by omega)
    rw [List.take_succ_eq_append_getElem hlt, List.filter_append] at ih'
    have hlen : ((l.take i).filter isNz).length ≤ 8 := by
      have := List.length_filter_le isNz (l.take i)
      rw [List.length_take] at this
      omega
    refine Ev.at1 ?_
    simp only [skiarearef37_open.l0, if_pos (show (i : Int) < (l.length : Int) by omega), if_pos (show (0 : Int) ≤ (i : Int) by omega), rd34 hlt, S34.eta]
    rw [w64 (n := (i : Int) + 1) (by omega) (by omega), cast1]
    by_cases hz : l[i].f1 = 0
    · simp only [hz, if_true]
      rw [show [l[i]].filter isNz = [] by simp [hz], List.append_nil] at ih'
      exact ih'
    · simp only [hz, if_false, if_pos (show ((l.take i).filter isNz).length < 8796093022208 by omega)]
      rw [show [l[i]].filter isNz = [l[i]] by simp [hz]] at ih'
      exact ih'
theorem open_ev (l : List S34) (hl : l.length ≤ 8) : Ev (fun k => skiarearef37_open.f k l) (l.filter isNz) := by
  have := open_go l hl l.length 0 (by omega) (by omega)
  exact this
theorem RLeast_ev {l : List S34} {t : List S32} (hg : Good l) (ht : NetOK l t) : Ev (fun k => skiarearef37_Least.f k l) (t.length : Int) := by
  have hS := hg.some_
  obtain ⟨K, hK, hmax, hlen⟩ := ht.most
  obtain ⟨q, hq, he⟩ := most_ev hS.sml hS.len
  have hp := pow_le hS.len
  have hfull : S (l.filter isNz) (2 ^ (l.filter isNz).length - 1) = 0 := by show sm am (pk _ _) = 0; rw [pk_full]; exact hS.sum
  have h1 := hq.parts_le (m := 2 ^ (l.filter isNz).length - 1) (by omega) hK
  obtain ⟨m0, _, hm0, hpp⟩ := hq.parts (2 ^ (l.filter isNz).length - 1) (by omega)
  rw [hm0 hfull] at hpp
  have h2 := hmax _ hpp
  have h3 := hS.len
  unfold skiarearef37_Least.f
  refine Ev.bind (open_ev l hg.len) (Ev.bind he ?_)
  simp only [tabN_len]
  rw [w64 (n := ((2 ^ (l.filter isNz).length : Nat) : Int) - 1) (by omega) (by omega), show ((2 ^ (l.filter isNz).length : Nat) : Int) - 1 = ((2 ^ (l.filter isNz).length - 1 : Nat) : Int) by omega]
  simp only [if_pos (show (0 : Int) ≤ ((2 ^ (l.filter isNz).length - 1 : Nat) : Int) by omega), if_pos (show ((2 ^ (l.filter isNz).length - 1 : Nat) : Int) < ((2 ^ (l.filter isNz).length : Nat) : Int) by omega)]
  rw [tabN_rd q (by omega), w64 (by omega) (by omega)]
  have e : ((l.filter isNz).length : Int) - q (2 ^ (l.filter isNz).length - 1) = (t.length : Int) := by omega
  rw [e]
  exact Ev.const _
end Go.Proofs.Ytdljjkjnlcdhbaa.Nt
