/- Netting: what the program's groups come to: a division into as many groups as there can be. -/
import Derived.Test.YtdljjkjnlcdhbaaMx4
import Derived.Test.YtdljjkjnlcdhbaaNr
namespace Go.Proofs.Ytdljjkjnlcdhbaa.Nt
open Go.RowKit Go.Proofs.Ytdljjkjnlcdhbaa.M Go.Proofs.YtdljjkjnlcdhbaaW.PrintWords Go.Proofs.YtdljjkjnlcdhbaaW.PrintLast Go.Proofs.YtdljjkjnlcdhbaaW.PrintMore Go.Proofs.Ytdljjkjnlcdhbaa.Mk
set_option linter.unusedSimpArgs false
set_option linter.unusedVariables false

def tabN (N : Nat) (f : Nat → Int) : List Int := (List.range N).map f
theorem tabN_len (N : Nat) (f : Nat → Int) : (tabN N f).length = N := by simp [tabN]
theorem tabN_rd {N : Nat} (f : Nat → Int) {i : Nat} (h : i < N) : rd (tabN N f) (i : Int) = f i := by simp [rd, tabN, h]
def upd (f : Nat → Int) (m : Nat) (v : Int) : Nat → Int := fun j => if j = m then v else f j
theorem tabN_set {N : Nat} (f : Nat → Int) {i : Nat} (v : Int) : (tabN N f).set (i : Int).toNat v = tabN N (upd f i v) := by
  apply List.ext_getElem
  · simp [tabN]
  · intro j hj hj'
    simp only [tabN, upd, List.getElem_set, List.getElem_map, List.getElem_range, Int.toNat_natCast]
    by_cases e : i = j
    · rw [if_pos e, if_pos e.symm]
    · rw [if_neg e, if_neg (fun h => e h.symm)]
theorem tabN_zero (N : Nat) : List.replicate N (0 : Int) = tabN N (fun _ => 0) := by
  apply List.ext_getElem
  · simp [tabN]
  · intro j _ _; simp [tabN]
theorem upd_self (f : Nat → Int) (m : Nat) (v : Int) : upd f m v m = v := by simp [upd]
theorem upd_ne (f : Nat → Int) {m j : Nat} (v : Int) (h : j ≠ m) : upd f m v j = f j := by simp [upd, h]

section
variable {L : List S34}
theorem pick_go (m : Nat) (hm : m < 9223372036854775808) (hl : L.length ≤ 8) (d : Nat) : ∀ i : Nat, L.length - i = d → i ≤ L.length →
    Ev (fun k => netting_pick.l0 k (m : Int) (pk (L.take i) m) L (L.length : Int) (i : Int)) (pk L m) := by
  induction d with
  | zero =>
    intro i hd hi
    refine Ev.at1 ?_
    simp only [netting_pick.l0, if_neg (show ¬ ((i : Int) < (L.length : Int)) by omega)]
    rw [List.take_of_length_le (by omega)]
    exact Ev.const _
  | succ d ih =>
    intro i hd hi
    have hlt : i < L.length := by omega
    have ih' := ih (i + 1) (by omega) (by omega)
    rw [pk_take L m i hlt] at ih'
    have hlen := pk_len (L.take i) m
    rw [List.length_take] at hlen
    refine Ev.at1 ?_
    simp only [netting_pick.l0, if_pos (show (i : Int) < (L.length : Int) by omega), if_pos (show (0 : Int) ≤ (i : Int) by omega), rd34 hlt, S34.eta]
    rw [w64 (n := (i : Int) + 1) (by omega) (by omega), cast1]
    by_cases hb : m.testBit i = true
    · simp only [if_pos ((bit_i64 (i := i) hm (by omega)).2 hb), if_pos (show (pk (L.take i) m).length < 8796093022208 by omega)]
      rw [if_pos hb] at ih'
      exact ih'
    · simp only [if_neg (fun h => hb ((bit_i64 (i := i) hm (by omega)).1 h))]
      rw [if_neg hb, List.append_nil] at ih'
      exact ih'
theorem pick_ev (m : Nat) (hm : m < 9223372036854775808) (hl : L.length ≤ 8) : Ev (fun k => netting_pick.f k L (m : Int)) (pk L m) := by
  have := pick_go (L := L) m hm hl L.length 0 (by omega) (by omega)
  rw [show pk (L.take 0) m = [] by simp [pk]] at this
  exact this
/-- The sum of a set. -/
abbrev S (L : List S34) (m : Nat) : Int := sm am (pk L m)
theorem tot_ev (hs : ∀ x ∈ L, small x) (hl : L.length ≤ 8) (m : Nat) : Ev (fun k => netting_total.f k (pk L m)) (S L m) :=
  total_ev _ (fun x hx => hs x (pk_mem hx)) (Nat.le_trans (pk_len L m) hl)

def Has (L : List S34) (c p : Nat → Int) (m : Nat) : Prop := ∃ s : Nat, p m = (s : Int) ∧ s ≠ 0 ∧ Sub s m ∧ S L s = 0 ∧ c m = 1 + c (df m s)
def Top (L : List S34) (c : Nat → Int) (t m : Nat) : Prop := ∀ s, t < s → Sub s m → s ≠ 0 → S L s = 0 → 1 + c (df m s) ≤ c m
structure CI (L : List S34) (c p : Nat → Int) (u : Nat) : Prop where
  z : c 0 = 0
  b : ∀ m, 0 ≤ c m ∧ c m ≤ m
  un : ∀ m, u ≤ m → c m = 0
  has : ∀ m, 0 < m → m < u → S L m = 0 → Has L c p m
  top : ∀ m, 0 < m → m < u → S L m = 0 → Top L c 0 m
theorem Has.upd {c p : Nat → Int} {j m : Nat} (h : Has L c p j) (hj : j < m) (v w : Int) : Has L (upd c m v) (upd p m w) j := by
  obtain ⟨s, h1, h2, h3, h4, h5⟩ := h
  have := df_le j s
  exact ⟨s, by rw [upd_ne _ _ (by omega)]; exact h1, h2, h3, h4, by rw [upd_ne _ _ (by omega), upd_ne _ _ (by omega)]; exact h5⟩
theorem Top.upd {c : Nat → Int} {t j m : Nat} (h : Top L c t j) (hj : j < m) (v : Int) : Top L (upd c m v) t j := by
  intro s h0 h1 h2 h3
  have := df_le j s
  rw [upd_ne _ _ (by omega), upd_ne _ _ (by omega)]
  exact h s h0 h1 h2 h3
/-- Midway in the sets within m. -/
structure CM (L : List S34) (c p : Nat → Int) (m t : Nat) : Prop where
  z : c 0 = 0
  b : ∀ j, 0 ≤ c j ∧ c j ≤ j
  un : ∀ j, m < j → c j = 0
  has : ∀ j, 0 < j → j < m → S L j = 0 → Has L c p j
  top : ∀ j, 0 < j → j < m → S L j = 0 → Top L c 0 j
  here : (t = m ∧ c m = 0) ∨ Has L c p m
  mid : Top L c t m
theorem CM.stays {c p : Nat → Int} {m t : Nat} (h : CM L c p m t) (ht : t ≠ 0) (hts : Sub t m) (hle : S L t = 0 → 1 + c (df m t) ≤ c m) (hz : S L m = 0) (hm : m ≠ 0) : CM L c p m ((t - 1) &&& m) := by
  have hlt : (t - 1) &&& m < t := by have := Nat.and_le_left (n := t - 1) (m := m); omega
  refine ⟨h.z, h.b, h.un, h.has, h.top, ?_, ?_⟩
  · rcases h.here with ⟨rfl, h0⟩ | h1
    · have := hle hz
      rw [df_self, h.z, h0] at this
      omega
    · exact .inr h1
  · intro s h0 h1 h2 h3
    by_cases e : s = t
    · subst e; exact hle h3
    · by_cases e2 : s < t
      · have := nx t hts h1 e2; omega
      · exact h.mid s (by omega) h1 h2 h3
theorem CM.turns {c p : Nat → Int} {m t : Nat} (h : CM L c p m t) (ht : t ≠ 0) (hts : Sub t m) (hgt : 1 + c (df m t) > c m) (hz : S L t = 0) (hm : m ≠ 0) : CM L (upd c m (1 + c (df m t))) (upd p m (t : Int)) m ((t - 1) &&& m) := by
  have hd := df_lt hts ht
  have hb := h.b (df m t)
  refine ⟨?_, fun j => ?_, fun j hj => ?_, fun j h0 hj hs => (h.has j h0 hj hs).upd hj _ _, fun j h0 hj hs => (h.top j h0 hj hs).upd hj _, .inr ?_, ?_⟩
  · rw [upd_ne _ _ (by omega)]; exact h.z
  · by_cases e : j = m
    · subst e; rw [upd_self]; omega
    · rw [upd_ne _ _ e]; exact h.b j
  · rw [upd_ne _ _ (by omega)]; exact h.un j hj
  · exact ⟨t, upd_self _ _ _, ht, hts, hz, by rw [upd_self, upd_ne _ _ (by omega)]⟩
  · intro s h0 h1 h2 h3
    have hds := df_lt h1 h2
    rw [upd_self, upd_ne _ _ (by omega)]
    by_cases e : s = t
    · subst e; omega
    · by_cases e2 : s < t
      · have := nx t hts h1 e2; omega
      · have := h.mid s (by omega) h1 h2 h3; omega
variable {Q : List (List S34) → Prop}
theorem inner_go (N m : Nat) (hN : N ≤ 256) (hm0 : m ≠ 0) (hm : m < N) (hs : ∀ x ∈ L, small x) (hl : L.length ≤ 8) (hz : S L m = 0)
    (K : ∀ c p, CI L c p (m + 1) → ∃ r, Q r ∧ Ev (fun k => netting_groups.l0 k L (N : Int) (tabN N c) (tabN N p) ((m + 1 : Nat) : Int)) r) (t : Nat) :
    ∀ c p, Sub t m → CM L c p m t → ∃ r, Q r ∧ Ev (fun k => netting_groups.l1 k L (N : Int) (tabN N c) (tabN N p) (m : Int) (t : Int)) r := by
  induction t using Nat.strongRecOn with
  | ind t ih =>
    intro c p hts h
    by_cases ht : t = 0
    · subst ht
      have hci : CI L c p (m + 1) := ⟨h.z, h.b, fun j hj => h.un j (by omega), fun j h0 hj hs => by
          by_cases e : j = m
          · subst e
            rcases h.here with ⟨h1, _⟩ | h1
            · omega
            · exact h1
          · exact h.has j h0 (by omega) hs, fun j h0 hj hs => by
          by_cases e : j = m
          · subst e; exact h.mid
          · exact h.top j h0 (by omega) hs⟩
      obtain ⟨r, hr, he⟩ := K c p hci
      refine ⟨r, hr, Ev.at1 ?_⟩
      simp only [netting_groups.l1, Int.natCast_zero, gt_iff_lt, Int.lt_irrefl, if_false]
      rw [w64 (n := (m : Int) + 1) (by omega) (by omega), cast1]
      exact he
    · have htm := hts.le
      have hlt : (t - 1) &&& m < t := by have := Nat.and_le_left (n := t - 1) (m := m); omega
      have hsub : Sub ((t - 1) &&& m) m := Sub.and _ _
      have hd := df_lt hts ht
      have e1 : Go.bits .and .i64 (wrap64 ((t : Int) - 1)) (m : Int) = (((t - 1) &&& m : Nat) : Int) := by
        rw [w64 (by omega) (by omega), show (t : Int) - 1 = ((t - 1 : Nat) : Int) by omega]
        exact and_i64 (by omega) (by omega)
      have e2 : Go.bits .andNot .i64 (m : Int) (t : Int) = ((df m t : Nat) : Int) := andNot_i64 (by omega)
      have hb := h.b (df m t)
      have key : ∀ c' p', CM L c' p' m ((t - 1) &&& m) → (∀ r, Ev (fun k => netting_groups.l1 k L (N : Int) (tabN N c') (tabN N p') (m : Int) (((t - 1) &&& m : Nat) : Int)) r → Ev (fun k => netting_groups.l1 k L (N : Int) (tabN N c) (tabN N p) (m : Int) (t : Int)) r) → ∃ r, Q r ∧ Ev (fun k => netting_groups.l1 k L (N : Int) (tabN N c) (tabN N p) (m : Int) (t : Int)) r := by
        intro c' p' hcm hstep
        obtain ⟨r, hr, he⟩ := ih _ hlt c' p' hsub hcm
        exact ⟨r, hr, hstep r he⟩
      have open_ : ∀ {g : Nat → Option (List (List S34))} {r}, Ev g r → Ev g r := fun h => h
      by_cases hzt : S L t = 0
      · by_cases hgt : 1 + c (df m t) > c m
        · refine key _ _ (h.turns ht hts hgt hzt hm0) (fun r he => Ev.at1 ?_)
          simp only [netting_groups.l1, if_pos (show (t : Int) > 0 by omega)]
          refine Ev.bind (pick_ev t (by omega) hl) ?_
          refine Ev.bind (tot_ev hs hl t) ?_
          simp only [hzt, if_true, e1, e2, tabN_len]
          rw [tabN_rd c (show df m t < N by omega), tabN_rd c hm, w64 (n := 1 + c (df m t)) (by omega) (by omega), tabN_set, tabN_set]
          simp only [if_pos (show (0 : Int) ≤ ((df m t : Nat) : Int) by omega), if_pos (show ((df m t : Nat) : Int) < (N : Int) by omega), if_pos (show (0 : Int) ≤ (m : Int) by omega), if_pos (show (m : Int) < (N : Int) by omega), if_pos hgt]
          exact he
        · refine key _ _ (h.stays ht hts (fun _ => by omega) hz hm0) (fun r he => Ev.at1 ?_)
          simp only [netting_groups.l1, if_pos (show (t : Int) > 0 by omega)]
          refine Ev.bind (pick_ev t (by omega) hl) ?_
          refine Ev.bind (tot_ev hs hl t) ?_
          simp only [hzt, if_true, e1, e2, tabN_len]
          rw [tabN_rd c (show df m t < N by omega), tabN_rd c hm, w64 (n := 1 + c (df m t)) (by omega) (by omega)]
          simp only [if_pos (show (0 : Int) ≤ ((df m t : Nat) : Int) by omega), if_pos (show ((df m t : Nat) : Int) < (N : Int) by omega), if_pos (show (0 : Int) ≤ (m : Int) by omega), if_pos (show (m : Int) < (N : Int) by omega), if_neg hgt]
          exact he
      · refine key _ _ (h.stays ht hts (fun e => absurd e hzt) hz hm0) (fun r he => Ev.at1 ?_)
        simp only [netting_groups.l1, if_pos (show (t : Int) > 0 by omega)]
        refine Ev.bind (pick_ev t (by omega) hl) ?_
        refine Ev.bind (tot_ev hs hl t) ?_
        simp only [hzt, if_false, e1]
        exact he
theorem outer_go (N : Nat) (hN : N ≤ 256) (hs : ∀ x ∈ L, small x) (hl : L.length ≤ 8)
    (K : ∀ c p, CI L c p N → ∃ r, Q r ∧ Ev (fun k => netting_groups.l2 k L (tabN N p) [] ((N : Int) - 1)) r) (d : Nat) :
    ∀ m c p, N - m = d → 1 ≤ m → m ≤ N → CI L c p m → ∃ r, Q r ∧ Ev (fun k => netting_groups.l0 k L (N : Int) (tabN N c) (tabN N p) (m : Int)) r := by
  induction d with
  | zero =>
    intro m c p hd h1 hm h
    have : m = N := by omega
    subst this
    obtain ⟨r, hr, he⟩ := K c p h
    refine ⟨r, hr, Ev.at1 ?_⟩
    simp only [netting_groups.l0, if_neg (show ¬ ((m : Int) < (m : Int)) by omega)]
    rw [w64 (n := (m : Int) - 1) (by omega) (by omega)]
    exact he
  | succ d ih =>
    intro m c p hd h1 hm h
    have hlt : m < N := by omega
    by_cases hz : S L m = 0
    · obtain ⟨r, hr, he⟩ := inner_go (Q := Q) N m hN (by omega) hlt hs hl hz (fun c p h => ih (m + 1) c p (by omega) (by omega) (by omega) h) m c p (Sub.refl m)
        ⟨h.z, h.b, fun j hj => h.un j (by omega), fun j h0 hj hs => h.has j h0 hj hs, fun j h0 hj hs => h.top j h0 hj hs, .inl ⟨rfl, h.un m (Nat.le_refl _)⟩, fun s h0 h1 => absurd h1.le (by omega)⟩
      refine ⟨r, hr, Ev.at1 ?_⟩
      simp only [netting_groups.l0, if_pos (show (m : Int) < (N : Int) by omega)]
      refine Ev.bind (pick_ev m (by omega) hl) ?_
      refine Ev.bind (tot_ev hs hl m) ?_
      simp only [hz, if_true]
      exact he
    · obtain ⟨r, hr, he⟩ := ih (m + 1) c p (by omega) (by omega) (by omega) ⟨h.z, h.b, fun j hj => h.un j (by omega), fun j h0 hj hs => by
          by_cases e : j = m
          · subst e; exact absurd hs hz
          · exact h.has j h0 (by omega) hs, fun j h0 hj hs => by
          by_cases e : j = m
          · subst e; exact absurd hs hz
          · exact h.top j h0 (by omega) hs⟩
      refine ⟨r, hr, Ev.at1 ?_⟩
      simp only [netting_groups.l0, if_pos (show (m : Int) < (N : Int) by omega)]
      refine Ev.bind (pick_ev m (by omega) hl) ?_
      refine Ev.bind (tot_ev hs hl m) ?_
      simp only [hz, if_false]
      rw [w64 (n := (m : Int) + 1) (by omega) (by omega), cast1]
      exact he

/-! ### The division that is read off -/
def Split (L : List S34) : List (List S34) → Nat → Prop
  | [], m => m = 0
  | g :: gs, m => ∃ s, Sub s m ∧ s ≠ 0 ∧ S L s = 0 ∧ g = pk L s ∧ Split L gs (df m s)
theorem Split.parts : ∀ {gs : List (List S34)} {m : Nat}, Split L gs m → Parts am L m gs.length := by
  intro gs
  induction gs with
  | nil => intro m h; exact h
  | cons g gs ih =>
    rintro m ⟨s, h1, h2, h3, _, h5⟩
    exact ⟨s, h1, h2, h3, ih h5⟩
theorem parts_le {c p : Nat → Int} {N : Nat} (h : CI L c p N) : ∀ {k m : Nat}, m < N → Parts am L m k → (k : Int) ≤ c m := by
  intro k
  induction k with
  | zero => intro m _ _; exact (h.b m).1
  | succ k ih =>
    intro m hm hp
    have hz := hp.sum
    obtain ⟨s, h1, h2, h3, h4⟩ := hp
    have hlt := df_lt h1 h2
    have := ih (by omega) h4
    have ht := h.top m (by omega) hm hz s (by omega) h1 h2 h3
    omega
theorem read_go (N : Nat) (hN : N ≤ 256) (hl : L.length ≤ 8) {c p : Nat → Int} (h : CI L c p N) (m : Nat) : ∀ acc : List (List S34), m < N → S L m = 0 → acc.length + m ≤ 1000 →
    ∃ gs, Split L gs m ∧ (gs.length : Int) = c m ∧ Ev (fun k => netting_groups.l2 k L (tabN N p) acc (m : Int)) (acc ++ gs) := by
  induction m using Nat.strongRecOn with
  | ind m ih =>
    intro acc hm hz ha
    by_cases h0 : m = 0
    · subst h0
      refine ⟨[], rfl, by rw [h.z]; rfl, Ev.at1 ?_⟩
      simp only [netting_groups.l2, Int.natCast_zero, gt_iff_lt, Int.lt_irrefl, if_false, List.append_nil]
      exact Ev.const _
    · obtain ⟨s, h1, h2, h3, h4, h5⟩ := h.has m (by omega) hm hz
      have hlt := df_lt h3 h2
      have hsle := h3.le
      have hz' : S L (df m s) = 0 := by
        have := pk_split am L h3
        unfold S at hz h4 ⊢
        omega
      obtain ⟨gs, g1, g2, g3⟩ := ih (df m s) hlt (acc ++ [pk L s]) (by omega) hz' (by simp; omega)
      refine ⟨pk L s :: gs, ⟨s, h3, h2, h4, rfl, g1⟩, by rw [List.length_cons]; omega, Ev.at1 ?_⟩
      simp only [netting_groups.l2, tabN_len, if_pos (show (m : Int) > 0 by omega), if_pos (show (0 : Int) ≤ (m : Int) by omega), if_pos (show (m : Int) < (N : Int) by omega)]
      rw [tabN_rd p hm, h1]
      refine Ev.bind (pick_ev s (by omega) hl) ?_
      simp only [if_pos (show acc.length < 5864062014805 by omega)]
      rw [andNot_i64 (by omega)]
      rw [List.append_assoc] at g3
      exact g3
theorem pow_le {n : Nat} (h : n ≤ 8) : 1 ≤ 2 ^ n ∧ 2 ^ n ≤ 256 :=
  ⟨Nat.pow_pos (by omega), by have := Nat.pow_le_pow_right (n := 2) (by omega) h; exact this⟩
theorem groups_ev (hs : ∀ x ∈ L, small x) (hl : L.length ≤ 8) (hz : sm am L = 0) :
    ∃ gs, (Split L gs (2 ^ L.length - 1) ∧ ∀ k, Parts am L (2 ^ L.length - 1) k → k ≤ gs.length) ∧ Ev (fun k => netting_groups.f k L) gs := by
  have hp := pow_le hl
  have hci : CI L (fun _ => 0) (fun _ => 0) 1 := ⟨rfl, fun m => ⟨Int.le_refl _, by omega⟩, fun _ _ => rfl, fun m h0 h1 => by omega, fun m h0 h1 => by omega⟩
  have hfull : S L (2 ^ L.length - 1) = 0 := by show sm am (pk L _) = 0; rw [pk_full]; exact hz
  obtain ⟨r, hr, he⟩ := outer_go (L := L) (Q := fun gs => Split L gs (2 ^ L.length - 1) ∧ ∀ k, Parts am L (2 ^ L.length - 1) k → k ≤ gs.length) (2 ^ L.length) hp.2 hs hl (fun c p h => by
    obtain ⟨gs, g1, g2, g3⟩ := read_go (2 ^ L.length) hp.2 hl h (2 ^ L.length - 1) [] (by omega) hfull (by simp; omega)
    refine ⟨gs, ⟨g1, fun k hk => ?_⟩, ?_⟩
    · have := parts_le h (by omega) hk
      omega
    · rw [show ((2 ^ L.length : Nat) : Int) - 1 = ((2 ^ L.length - 1 : Nat) : Int) by omega]
      exact g3) (2 ^ L.length - 1) 1 _ _ rfl (by omega) hp.1 hci
  refine ⟨r, hr, ?_⟩
  unfold netting_groups.f
  rw [shl_one _ (by omega)]
  simp only [if_pos (show (0 : Int) ≤ ((2 ^ L.length : Nat) : Int) by omega), Int.toNat_natCast, if_pos (show 2 ^ L.length ≤ 35184372088832 by omega), tabN_zero]
  exact he
end
end Go.Proofs.Ytdljjkjnlcdhbaa.Nt
