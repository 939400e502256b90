/- Netting: the chapter's examples hold. -/
import Derived.Test.YtdljjkjnlcdhbaaMx7
import Derived.Test.YtdljjkjnlcdhbaaNl
namespace Go.Proofs.Ytdljjkjnlcdhbaa.Nt
open Go.RowKit Go.Proofs.Ytdljjkjnlcdhbaa.M Go.Proofs.YtdljjkjnlcdhbaaW.PrintWords Go.Proofs.YtdljjkjnlcdhbaaW.PrintLast Go.Proofs.YtdljjkjnlcdhbaaW.PrintMore Go.Proofs.Ytdljjkjnlcdhbaa.Mk
set_option linter.unusedSimpArgs false
set_option linter.unusedVariables false

instance : DecidableEq S34 := fun x y =>
  if h : x.f0 = y.f0 ∧ x.f1 = y.f1 then isTrue (by cases x; cases y; simp_all) else isFalse (by rintro rfl; exact h ⟨rfl, rfl⟩)
theorem Ev.uniq {α : Type} {g : Nat → Option α} {a b : α} (h : Ev g a) (h' : Ev g b) : a = b := by
  obtain ⟨K, h⟩ := h
  obtain ⟨K', h'⟩ := h'
  have h1 := h (max K K') (Nat.le_max_left _ _)
  have h2 := h' (max K K') (Nat.le_max_right _ _)
  rw [h1] at h2
  exact Option.some.inj h2
theorem of_ev (a : List Int) (r : List S34) (h : skiarealaw37_of.f 20 a = some r) : Ev (fun k => skiarealaw37_of.f k a) r := Ev.of (fun k => skiarealaw37_of.mono _ k) h
theorem net_len {l : List S34} {n : Int} (hg : rightS l = 0) (h : skiarearef37_Least.f 200 l = some n) : ∃ t, (t.length : Int) = n ∧ Ev (fun k => netting_Net.f k l) t := by
  obtain ⟨t, ht, he⟩ := Net_ev (rightS_zero hg)
  exact ⟨t, Ev.uniq (RLeast_ev (rightS_zero hg) ht) (Ev.of (fun k => skiarearef37_Least.mono _ k) h), he⟩
theorem least_val {l : List S34} {n : Int} (hg : rightS l = 0) (h : skiarearef37_Least.f 200 l = some n) : Ev (fun k => netting_Least.f k l) n := by
  obtain ⟨t, ht, he⟩ := net_len hg h
  rw [← ht]
  exact Least_ev he
theorem right_val {l : List S34} {n : Int} (h : rightS l = n) : Ev (fun k => netting_Right.f k l) n := h ▸ Right_ev l
theorem valid_val {l : List S34} {t : List S32} {b : Bool} (hg : rightS l = 0) (ht : t.length ≤ 1000) (h : decide (settles l t) = b) : Ev (fun k => netting_Valid.f k l t) b := h ▸ Valid_ev (rightS_zero hg) ht
theorem alive_ev : Ev (fun k => skiarealaw37_alive.f k) true := by
  unfold skiarealaw37_alive.f
  simp only [Option.bind_some]
  refine Ev.bind (of_ev _ [⟨1, 50⟩, ⟨2, -20⟩, ⟨3, -30⟩] (by decide +kernel)) ?_
  refine Ev.bind (right_val (n := 0) (by decide +kernel)) ?_
  simp only [if_true]
  refine Ev.bind (of_ev _ [⟨1, 5⟩, ⟨2, -4⟩] (by decide +kernel)) ?_
  refine Ev.bind (right_val (n := 1) (by decide +kernel)) ?_
  simp only [if_true]
  refine Ev.bind (of_ev _ [⟨1, 50⟩, ⟨2, -20⟩, ⟨3, -30⟩] (by decide +kernel)) ?_
  refine Ev.bind (valid_val (b := true) (by decide +kernel) (by decide) (by decide +kernel)) ?_
  simp only [if_true]
  refine Ev.bind (of_ev _ [⟨1, 50⟩, ⟨2, -20⟩, ⟨3, -30⟩] (by decide +kernel)) ?_
  simp only [if_pos (show (1 : Int) ≤ (([(⟨2, 1, 20⟩ : S32), ⟨3, 1, 30⟩].length : Nat) : Int) by decide)]
  refine Ev.bind (valid_val (b := false) (by decide +kernel) (by decide) (by decide +kernel)) ?_
  simp only [Bool.false_eq_true, if_false]
  refine Ev.bind (of_ev _ [⟨1, 50⟩, ⟨2, -20⟩, ⟨3, -30⟩] (by decide +kernel)) ?_
  refine Ev.bind (least_val (n := 2) (by decide +kernel) (by decide +kernel)) ?_
  simp only [if_true]
  refine Ev.bind (of_ev _ [⟨1, 5⟩, ⟨2, -5⟩, ⟨3, 7⟩, ⟨4, -7⟩] (by decide +kernel)) ?_
  refine Ev.bind (least_val (n := 2) (by decide +kernel) (by decide +kernel)) ?_
  simp only [if_true]
  refine Ev.bind (of_ev _ [⟨1, 5⟩, ⟨2, -3⟩, ⟨3, 7⟩, ⟨4, -9⟩] (by decide +kernel)) ?_
  refine Ev.bind (least_val (n := 3) (by decide +kernel) (by decide +kernel)) ?_
  simp only [if_true]
  refine Ev.bind (of_ev _ [⟨1, 0⟩, ⟨2, 0⟩] (by decide +kernel)) ?_
  refine Ev.bind (least_val (n := 0) (by decide +kernel) (by decide +kernel)) ?_
  simp only [if_true]
  obtain ⟨t, ht, he⟩ := net_len (l := []) (n := 0) (by decide +kernel) (by decide +kernel)
  refine Ev.bind he ?_
  simp only [ht, if_true]
  refine Ev.bind (of_ev _ [⟨1, 50⟩, ⟨2, -20⟩, ⟨3, -30⟩] (by decide +kernel)) ?_
  obtain ⟨t, ht, he⟩ := net_len (l := [⟨1, 50⟩, ⟨2, -20⟩, ⟨3, -30⟩]) (n := 2) (by decide +kernel) (by decide +kernel)
  refine Ev.bind he ?_
  simp only [ht]
  exact Ev.const _
theorem cast1' (i : Nat) : ((i + 1 : Nat) : Int) = (i : Int) + 1 := by omega
theorem NetOK.len_le {l : List S34} {t : List S32} (h : NetOK l t) (hg : Good l) : t.length ≤ 8 := by
  obtain ⟨K, _, _, h3⟩ := h.most
  have := hg.some_.len
  omega
theorem sm_filter_one (l : List S34) : sm (fun _ => 1) (l.filter isNz) = nz l := by
  induction l with
  | nil => rfl
  | cons x l ih =>
    have e : nz (x :: l) = nzf x + nz l := rfl
    rw [List.filter_cons, e]
    unfold nzf
    by_cases h : x.f1 = 0
    · simp [h, ih]
    · simp [h, ih, sm]
end Go.Proofs.Ytdljjkjnlcdhbaa.Nt
