/- Rides: Of of the program and of the reference; the reference's Gaps and Upto are the program's. -/
import Derived.Test.YtgohhekihfilbaaMx16
import Derived.Test.YtgohhekihfilbaaRg
namespace Go.Proofs.Ytgohhekihfilbaa.Rl
open Go.RowKit Go.Proofs.Ytgohhekihfilbaa.M Go.Proofs.YtgohhekihfilbaaW.PrintWords Go.Proofs.YtgohhekihfilbaaW.PrintLast Go.Proofs.YtgohhekihfilbaaW.PrintMore
set_option linter.unusedSimpArgs false
set_option linter.unusedVariables false

/-- The rides of a medium. -/
abbrev isS (s : Int) (x : S28) : Bool := decide (x.f2 = s)
theorem Of1_eq (s : Int) (x : S28) : rides_Of_1.f x.f0 x.f1 x.f2 x.f3 x.f4 x.f5 x.f6 s = some (!(isS s x)) := by
  unfold rides_Of_1.f isS
  by_cases h : x.f2 = s <;> simp [h]
theorem cast1 (i : Nat) : ((i : Int) + 1) = ((i + 1 : Nat) : Int) := by omega
theorem Of_first_go (l : List S28) (s : Int) (hl : l.length ≤ 100000) (d : Nat) : ∀ i : Nat, l.length - i = d → i ≤ l.length → (∀ x ∈ l.take i, isS s x = true) →
    ∃ r, ((r = -1 ∧ ∀ x ∈ l, isS s x = true) ∨ ∃ (i : Nat) (h : i < l.length), r = (i : Int) ∧ isS s l[i] = false ∧ ∀ x ∈ l.take i, isS s x = true) ∧ Ev (fun k => rides_Of_first.l0 k l s (l.length : Int) (i : Int)) r := by
  induction d with
  | zero =>
    intro i hd hi h
    refine ⟨-1, .inl ⟨rfl, by rwa [List.take_of_length_le (by omega)] at h⟩, Ev.at1 ?_⟩
    simp only [rides_Of_first.l0, if_neg (show ¬ ((i : Int) < (l.length : Int)) by omega)]
    exact Ev.const _
  | succ d ih =>
    intro i hd hi h
    have hlt : i < l.length := by omega
    by_cases hp : isS s l[i] = true
    · obtain ⟨r, hr, he⟩ := ih (i + 1) (by omega) (by omega) (by
        intro x hx
        rw [List.take_succ_eq_append_getElem hlt] at hx
        rcases List.mem_append.1 hx with hx | hx
        · exact h x hx
        · rw [List.mem_singleton.1 hx]; exact hp)
      refine ⟨r, hr, Ev.at1 ?_⟩
      simp only [rides_Of_first.l0, if_pos (show (i : Int) < (l.length : Int) by omega), if_pos (show (0 : Int) ≤ (i : Int) by omega), rd_at hlt, Of1_eq, Option.bind_some, hp, Bool.not_true, Bool.false_eq_true, if_false]
      rw [w64 (n := (i : Int) + 1) (by omega) (by omega), cast1]
      exact he
    · have hp' : isS s l[i] = false := by simpa using hp
      refine ⟨(i : Int), .inr ⟨i, hlt, rfl, hp', h⟩, Ev.at1 ?_⟩
      simp only [rides_Of_first.l0, if_pos (show (i : Int) < (l.length : Int) by omega), if_pos (show (0 : Int) ≤ (i : Int) by omega), rd_at hlt, Of1_eq, Option.bind_some, hp', Bool.not_false, if_true]
      exact Ev.const _
theorem del_go (l : List S28) (s : Int) (hl : l.length ≤ 100000) (d : Nat) : ∀ (i j : Nat) (y : List S28), l.length - j = d → i ≤ j → j ≤ l.length → y.length = l.length → y.take i = (l.take j).filter (isS s) → y.drop j = l.drop j →
    Ev (fun k => rides_Of_del.l0 k y s (i : Int) (j : Int)) (l.filter (isS s)) := by
  induction d with
  | zero =>
    intro i j y hd hij hj hy ht hdr
    refine Ev.at1 ?_
    simp only [rides_Of_del.l0, if_neg (show ¬ ((j : Int) < (y.length : Int)) by omega), if_pos (show (0 : Int) ≤ (i : Int) by omega), if_pos (show (i : Int) ≤ (y.length : Int) by omega), Int.toNat_natCast]
    rw [ht, List.take_of_length_le (by omega)]
    exact Ev.const _
  | succ d ih =>
    intro i j y hd hij hj hy ht hdr
    have hlt : j < l.length := by omega
    have hjy : j < y.length := by omega
    have hyj : y[j] = l[j] := by
      rw [List.drop_eq_getElem_cons hlt, List.drop_eq_getElem_cons hjy] at hdr
      injection hdr
    have hdr' : y.drop (j + 1) = l.drop (j + 1) := by
      have := congrArg (List.drop 1) hdr
      rwa [List.drop_drop, List.drop_drop] at this
    refine Ev.at1 ?_
    simp only [rides_Of_del.l0, if_pos (show (j : Int) < (y.length : Int) by omega), if_pos (show (0 : Int) ≤ (j : Int) by omega), rd_at hjy, hyj, Of1_eq, Option.bind_some]
    rw [w64 (n := (j : Int) + 1) (by omega) (by omega), cast1]
    by_cases hz : isS s l[j] = true
    · simp only [hz, Bool.not_true, Bool.false_eq_true, if_false, if_pos (show (0 : Int) ≤ (i : Int) by omega), if_pos (show (i : Int) < (y.length : Int) by omega), S28.eta, Int.toNat_natCast]
      rw [w64 (n := (i : Int) + 1) (by omega) (by omega), cast1]
      refine ih (i + 1) (j + 1) (y.set i l[j]) (by omega) (by omega) (by omega) (by simpa using hy) ?_ ?_
      · rw [List.take_succ_eq_append_getElem hlt, List.filter_append, ← ht]
        rw [List.take_succ_eq_append_getElem (by simp; omega)]
        rw [List.getElem_set, if_pos rfl, List.take_set_of_le (by omega)]
        have : [l[j]].filter (isS s) = [l[j]] := by rw [List.filter_cons, if_pos hz, List.filter_nil]
        rw [this]
      · rw [List.drop_set_of_lt (by omega)]
        exact hdr'
    · have hz' : isS s l[j] = false := by simpa using hz
      simp only [hz', Bool.not_false, if_true]
      refine ih i (j + 1) y (by omega) (by omega) (by omega) hy ?_ hdr'
      rw [List.take_succ_eq_append_getElem hlt, List.filter_append, ht]
      have : [l[j]].filter (isS s) = [] := by rw [List.filter_cons, if_neg hz, List.filter_nil]
      rw [this, List.append_nil]
theorem del_ev (l : List S28) (s : Int) (hl : l.length ≤ 100000) : Ev (fun k => rides_Of_del.f k l s) (l.filter (isS s)) := by
  obtain ⟨r, hr, he⟩ := Of_first_go l s hl l.length 0 (by omega) (by omega) (by simp)
  unfold rides_Of_del.f
  refine Ev.bind (a := r) he ?_
  rcases hr with ⟨rfl, h⟩ | ⟨i, hi, rfl, hz, h⟩
  · simp only [if_true]
    rw [List.filter_eq_self.2 (fun x hx => h x hx)]
    exact Ev.const _
  · simp only [if_neg (show ¬ ((i : Int) = -1) by omega)]
    rw [w64 (n := (i : Int) + 1) (by omega) (by omega), cast1]
    refine del_go l s hl _ i (i + 1) l rfl (by omega) (by omega) rfl ?_ rfl
    rw [List.take_succ_eq_append_getElem hi, List.filter_append, List.filter_eq_self.2 (fun x hx => h x hx)]
    have : [l[i]].filter (isS s) = [] := by rw [List.filter_cons, if_neg (by simp [hz]), List.filter_nil]
    rw [this, List.append_nil]
theorem Of_ev (l : List S28) (s : Int) (hl : l.length ≤ 100000) : Ev (fun k => rides_Of.f k l s) (Sr.srt rides_Of_2_cf (l.filter (isS s))) := by
  have hc : api_Ride_33.f l = some l := by
    unfold api_Ride_33.f
    simp only [Option.bind_some, List.nil_append, List.length_nil, Nat.zero_add]
    rw [if_pos (by omega)]
  unfold rides_Of.f
  rw [hc]
  simp only [Option.bind_some]
  refine Ev.bind (del_ev l s hl) ?_
  have := List.length_filter_le (isS s) l
  unfold rides_Of_2_sort.f
  simp only [if_pos (show (l.filter (isS s)).length < 4611686018427387904 by omega), Option.bind_some]
  exact Ev.const _

/-! ### The reference's -/
theorem cf_neg (x y : S28) : rides_Of_2_cf x y < 0 ↔ (x.f6 < y.f6 ∨ (x.f6 = y.f6 ∧ (x.f3 < y.f3 ∨ (x.f3 = y.f3 ∧ lt x y)))) := by
  simp only [rides_Of_2_cf, rides_Of_2_ks, Lx.lexL]
  unfold lt
  repeat' split
  all_goals omega
theorem earlier_eq (x y : S28) : skiarearef31_earlier.f x.f0 x.f1 x.f2 x.f3 x.f4 x.f5 x.f6 y.f0 y.f1 y.f2 y.f3 y.f4 y.f5 y.f6 = some (decide (rides_Of_2_cf x y < 0)) := by
  unfold skiarearef31_earlier.f
  simp only [before_eq, Option.bind_some]
  by_cases h6 : x.f6 = y.f6
  · rw [if_pos h6]
    by_cases h3 : x.f3 = y.f3
    · rw [if_pos h3]
      congr 1
      rw [decide_eq_decide, cf_neg]
      simp [h6, h3]
    · rw [if_neg h3]
      congr 1
      rw [decide_eq_decide, cf_neg]
      simp [h6, h3]
  · rw [if_neg h6]
    congr 1
    rw [decide_eq_decide, cf_neg]
    simp [h6]
def leR (x y : S28) : Prop := ¬ rides_Of_2_cf y x < 0
theorem leR_trans {x y z : S28} (h1 : leR x y) (h2 : leR y z) : leR x z := by
  unfold leR at *
  have a := Lx.lexL_neg (a := rides_Of_2_ks x) (b := rides_Of_2_ks y)
  have b := Lx.lexL_neg (a := rides_Of_2_ks y) (b := rides_Of_2_ks z)
  have c := Lx.lexL_neg (a := rides_Of_2_ks x) (b := rides_Of_2_ks z)
  have := Lx.lexL_trans (a := rides_Of_2_ks x) (b := rides_Of_2_ks y) (c := rides_Of_2_ks z) rfl rfl (by unfold rides_Of_2_cf at h1; omega) (by unfold rides_Of_2_cf at h2; omega)
  unfold rides_Of_2_cf
  omega
theorem leR_of {x y : S28} (h : rides_Of_2_cf x y < 0) : leR x y := by
  unfold leR
  have a := Lx.lexL_neg (a := rides_Of_2_ks x) (b := rides_Of_2_ks y)
  unfold rides_Of_2_cf at *
  omega
theorem swap_eq {α : Type} (A B : List α) (a e : α) : ((A ++ a :: e :: B).set (A.length + 1) a).set A.length e = A ++ e :: a :: B := by
  induction A with
  | nil => rfl
  | cons x A ih => simp only [List.cons_append, List.length_cons, List.set_cons_succ, ih]
theorem ins_go (l : List S28) (s : Int) (i : Nat) (e : S28) (hi : i ≤ 100000) (d : Nat) : ∀ (A B : List S28), A.length = d → A.length + B.length ≤ 100000 → (A ++ B).Pairwise leR → (∀ b ∈ B, leR e b) →
    ∃ r, r.Perm (e :: (A ++ B)) ∧ r.Pairwise leR ∧ ∀ res, Ev (fun k => skiarearef31_Of.l0 k l s r ((i + 1 : Nat) : Int)) res → Ev (fun k => skiarearef31_Of.l1 k l s (A ++ e :: B) (i : Int) (A.length : Int)) res := by
  induction d with
  | zero =>
    intro A B hd hlen hp hB
    have : A = [] := List.length_eq_zero_iff.1 hd
    subst this
    refine ⟨e :: B, .refl _, List.pairwise_cons.2 ⟨hB, hp⟩, fun res h => Ev.at1 ?_⟩
    simp only [skiarearef31_Of.l1, List.length_nil, Int.natCast_zero, gt_iff_lt, Int.lt_irrefl, if_false, List.nil_append]
    rw [w64 (n := (i : Int) + 1) (by omega) (by omega), cast1]
    exact h
  | succ d ih =>
    intro A B hd hlen hp hB
    rcases List.eq_nil_or_concat A with rfl | ⟨A', a, rfl⟩
    · simp at hd
    have hA' : A'.length = d := by simpa using hd
    rw [List.concat_eq_append] at *
    have e1 : A' ++ [a] ++ e :: B = A' ++ a :: e :: B := by simp
    have e2 : A' ++ [a] ++ B = A' ++ a :: B := by simp
    have hl1 : (A' ++ [a]).length = A'.length + 1 := by simp
    rw [e2] at hp ⊢
    rw [e1, hl1]
    have r1 : rd_T28 (A' ++ a :: e :: B) ((A'.length + 1 : Nat) : Int) = e := by
      rw [rd_at (by simp)]
      rw [List.getElem_append_right (by omega)]
      simp
    have r2 : rd_T28 (A' ++ a :: e :: B) ((A'.length : Nat) : Int) = a := by
      rw [rd_at (by simp)]
      rw [List.getElem_append_right (by omega)]
      simp
    have hlb : ((A' ++ a :: e :: B).length : Int) = A'.length + B.length + 2 := by simp; omega
    have hlen' : A'.length + 1 + B.length ≤ 100000 := by rw [hl1] at hlen; omega
    have hpp := List.pairwise_append.1 hp
    have hpa := List.pairwise_cons.1 hpp.2.1
    by_cases hc : rides_Of_2_cf e a < 0
    · obtain ⟨r, hr1, hr2, hr3⟩ := ih A' (a :: B) hA' (by simp; omega) hp (fun b hb => by
        rcases List.mem_cons.1 hb with rfl | hb
        · exact leR_of hc
        · exact hB b hb)
      refine ⟨r, hr1, hr2, fun res h => Ev.at1 ?_⟩
      have h3 := hr3 res h
      simp only [skiarearef31_Of.l1]
      rw [w64 (n := ((A'.length + 1 : Nat) : Int) - 1) (by omega) (by omega), show ((A'.length + 1 : Nat) : Int) - 1 = ((A'.length : Nat) : Int) by omega]
      simp only [if_pos (show ((A'.length + 1 : Nat) : Int) > 0 by omega), if_pos (show (0 : Int) ≤ ((A'.length + 1 : Nat) : Int) by omega), if_pos (show ((A'.length + 1 : Nat) : Int) < ((A' ++ a :: e :: B).length : Int) by omega), if_pos (show (0 : Int) ≤ ((A'.length : Nat) : Int) by omega), if_pos (show ((A'.length : Nat) : Int) < ((A' ++ a :: e :: B).length : Int) by omega), r1, r2, earlier_eq, Option.bind_some, hc, decide_true, if_true, S28.eta, Int.toNat_natCast]
      rw [swap_eq]
      exact h3
    · refine ⟨A' ++ a :: e :: B, ?_, ?_, fun res h => Ev.at1 ?_⟩
      · have h1 : (A' ++ a :: e :: B).Perm (e :: (A' ++ a :: B)) := by
          have : A' ++ a :: e :: B = (A' ++ [a]) ++ e :: B := by simp
          rw [this, ← e2]
          exact List.perm_middle
        exact h1
      · rw [List.pairwise_append]
        refine ⟨hpp.1, List.pairwise_cons.2 ⟨fun b hb => ?_, List.pairwise_cons.2 ⟨hB, hpa.2⟩⟩, fun x hx y hy => ?_⟩
        · rcases List.mem_cons.1 hb with rfl | hb
          · exact hc
          · exact hpa.1 b hb
        · rcases List.mem_cons.1 hy with rfl | hy
          · exact hpp.2.2 x hx y (by simp)
          · rcases List.mem_cons.1 hy with rfl | hy
            · exact leR_trans (hpp.2.2 x hx a (by simp)) hc
            · exact hpp.2.2 x hx y (by simp [hy])
      · simp only [skiarearef31_Of.l1]
        rw [w64 (n := ((A'.length + 1 : Nat) : Int) - 1) (by omega) (by omega), show ((A'.length + 1 : Nat) : Int) - 1 = ((A'.length : Nat) : Int) by omega]
        simp only [if_pos (show ((A'.length + 1 : Nat) : Int) > 0 by omega), if_pos (show (0 : Int) ≤ ((A'.length + 1 : Nat) : Int) by omega), if_pos (show ((A'.length + 1 : Nat) : Int) < ((A' ++ a :: e :: B).length : Int) by omega), if_pos (show (0 : Int) ≤ ((A'.length : Nat) : Int) by omega), if_pos (show ((A'.length : Nat) : Int) < ((A' ++ a :: e :: B).length : Int) by omega), r1, r2, earlier_eq, Option.bind_some, hc, decide_false, Bool.false_eq_true, if_false]
        rw [w64 (n := (i : Int) + 1) (by omega) (by omega), cast1]
        exact h
theorem ROf_go (l : List S28) (s : Int) (hl : l.length ≤ 100000) (d : Nat) : ∀ (i : Nat) (out : List S28), l.length - i = d → i ≤ l.length → out.Perm ((l.take i).filter (isS s)) → out.Pairwise leR →
    ∃ r, r.Perm (l.filter (isS s)) ∧ r.Pairwise leR ∧ Ev (fun k => skiarearef31_Of.l0 k l s out (i : Int)) r := by
  induction d with
  | zero =>
    intro i out hd hi hp ho
    rw [List.take_of_length_le (by omega)] at hp
    refine ⟨out, hp, ho, Ev.at1 ?_⟩
    simp only [skiarearef31_Of.l0, if_neg (show ¬ ((i : Int) < (l.length : Int)) by omega)]
    exact Ev.const _
  | succ d ih =>
    intro i out hd hi hp ho
    have hlt : i < l.length := by omega
    have hlen : out.length ≤ i := by
      rw [hp.length_eq]
      have := List.length_filter_le (isS s) (l.take i)
      rw [List.length_take] at this
      omega
    by_cases hz : l[i].f2 = s
    · have hz' : isS s l[i] = true := by simp [hz]
      obtain ⟨r, hr1, hr2, hr3⟩ := ins_go l s i l[i] (by omega) out.length out [] rfl (by simp; omega) (by simpa using ho) (fun b hb => by simp at hb)
      rw [List.append_nil] at hr1
      obtain ⟨q, hq1, hq2, hq3⟩ := ih (i + 1) r (by omega) (by omega) (by
        rw [List.take_succ_eq_append_getElem hlt, List.filter_append, show [l[i]].filter (isS s) = [l[i]] by rw [List.filter_cons, if_pos hz', List.filter_nil]]
        exact hr1.trans ((List.Perm.cons _ hp).trans (List.perm_append_singleton _ _).symm)) hr2
      refine ⟨q, hq1, hq2, Ev.at1 ?_⟩
      simp only [skiarearef31_Of.l0, if_pos (show (i : Int) < (l.length : Int) by omega), if_pos (show (0 : Int) ≤ (i : Int) by omega), rd_at hlt, if_pos hz, if_pos (show out.length < 2513169434916 by omega), S28.eta, Option.bind_some]
      have e : ((out ++ [l[i]]).length : Int) - 1 = (out.length : Int) := by simp
      rw [e, w64 (by omega) (by omega)]
      exact hr3 q hq3
    · have hz' : isS s l[i] = false := by simp [hz]
      obtain ⟨q, hq1, hq2, hq3⟩ := ih (i + 1) out (by omega) (by omega) (by
        rw [List.take_succ_eq_append_getElem hlt, List.filter_append, show [l[i]].filter (isS s) = [] by rw [List.filter_cons, if_neg (by simp [hz']), List.filter_nil], List.append_nil]
        exact hp) ho
      refine ⟨q, hq1, hq2, Ev.at1 ?_⟩
      simp only [skiarearef31_Of.l0, if_pos (show (i : Int) < (l.length : Int) by omega), if_pos (show (0 : Int) ≤ (i : Int) by omega), rd_at hlt, if_neg hz]
      rw [w64 (n := (i : Int) + 1) (by omega) (by omega), cast1]
      exact hq3
theorem ROf_ev (l : List S28) (hs : store l) (s : Int) (hl : l.length ≤ 100000) : Ev (fun k => skiarearef31_Of.f k l s) (Sr.srt rides_Of_2_cf (l.filter (isS s))) := by
  obtain ⟨r, h1, h2, h3⟩ := ROf_go l s hl l.length 0 [] (by omega) (by omega) (by simp) List.Pairwise.nil
  obtain ⟨g1, g2⟩ := Sr.srt_spec rides_Of_2_cf rides_Of_2_swo (l.filter (isS s))
  have e : r = Sr.srt rides_Of_2_cf (l.filter (isS s)) := by
    refine Lx.sorted_unique rides_Of_2_ks 4 (fun _ => rfl) _ _ (h1.trans g1.symm) (fun x hx y hy e => ?_) h2 g2
    have hx' := (List.mem_filter.1 (h1.mem_iff.1 hx)).1
    have hy' := (List.mem_filter.1 (h1.mem_iff.1 hy)).1
    refine store_uniq hs.2 hx' hy' ?_
    unfold rides_Of_2_ks at e
    unfold ky
    simp only [List.cons.injEq] at e
    rw [e.2.2.1, e.2.2.2.1]
  rw [← e]
  exact h3

/-! ### Gaps, Upto, SameInts -/
theorem RGaps_eq (l : List S28) (g : Int) (k : Nat) : (∀ out n (i : Int), skiarearef31_Gaps.l0 k l g out n i = rides_Gaps.l0 k g out n l (l.length : Int) i) ∧
    (∀ out n (i : Int), 0 ≤ i → i < (l.length : Int) → skiarearef31_Gaps.l1 k l g out n i = rides_Gaps.l1 k g out n l (l.length : Int) i (rd_T28 l i).f0 (rd_T28 l i).f1 (rd_T28 l i).f2 (rd_T28 l i).f3 (rd_T28 l i).f4 (rd_T28 l i).f5 (rd_T28 l i).f6) := by
  induction k with
  | zero => exact ⟨fun _ _ _ => rfl, fun _ _ _ _ _ => rfl⟩
  | succ k ih =>
    refine ⟨fun out n i => ?_, fun out n i h0 h1 => ?_⟩
    · rw [skiarearef31_Gaps.l0, rides_Gaps.l0]
      by_cases h1 : i < (l.length : Int)
      · by_cases h0 : 0 ≤ i
        · simp only [h0, h1, if_true]
          rw [ih.1, ih.2 _ _ _ h0 h1]
        · simp only [h0, h1, if_true, if_false]
      · simp only [h1, if_false]
    · rw [skiarearef31_Gaps.l1, rides_Gaps.l1]
      simp only [h0, h1, if_true]
      rw [ih.1, ih.2 _ _ _ h0 h1]
theorem RUpto_eq (l : List S28) (g : Int) (k : Nat) : ∀ n (i : Int), skiarearef31_Upto.l0 k l g n i = rides_Upto.l0 k g n l (l.length : Int) i := by
  induction k with
  | zero => exact fun _ _ => rfl
  | succ k ih =>
    intro n i
    rw [skiarearef31_Upto.l0, rides_Upto.l0]
    by_cases h1 : i < (l.length : Int)
    · by_cases h0 : 0 ≤ i
      · simp only [h0, h1, if_true, ih]
      · simp only [h0, h1, if_true, if_false]
    · simp only [h1, if_false]
theorem SameInts_go (a : List Int) (h6 : a.length ≤ 1000000) (d : Nat) : ∀ i : Nat, a.length - i = d → i ≤ a.length → Ev (fun k => skiarearef31_SameInts.l0 k a a (i : Int)) true := by
  induction d with
  | zero =>
    intro i hd hi
    refine Ev.at1 ?_
    simp only [skiarearef31_SameInts.l0, if_neg (show ¬ ((i : Int) < (a.length : Int)) by omega)]
    exact Ev.const _
  | succ d ih =>
    intro i hd hi
    refine Ev.at1 ?_
    simp only [skiarearef31_SameInts.l0, if_pos (show (i : Int) < (a.length : Int) by omega), if_pos (show (0 : Int) ≤ (i : Int) by omega), if_true]
    rw [w64 (n := (i : Int) + 1) (by omega) (by omega), cast1]
    exact ih (i + 1) (by omega) (by omega)
theorem SameInts_self (a : List Int) (h6 : a.length ≤ 1000000) : Ev (fun k => skiarearef31_SameInts.f k a a) true := by
  unfold skiarearef31_SameInts.f
  simp only [if_true]
  exact SameInts_go a h6 a.length 0 (by omega) (by omega)
end Go.Proofs.Ytgohhekihfilbaa.Rl
