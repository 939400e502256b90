/- What the functions of the program compute, as Lean functions, and the proofs that the machine's calls come to just that. Laid by this session's own program. -/
import Derived.Test.YtgohhekihfilbaaMx0
import Derived.Test.YtgohhekihfilbaaMx14
namespace Go.Proofs.Ytgohhekihfilbaa.M
open Go.RowKit Go.Proofs.YtgohhekihfilbaaW.PrintWords Go.Proofs.YtgohhekihfilbaaW.PrintLast Go.Proofs.YtgohhekihfilbaaW.PrintMore
attribute [local go_sem] max2_int min2_int max_two min_two max_three min_three max_four min_four   -- for this text's walks alone
set_option linter.unusedVariables false
set_option linter.unusedSimpArgs false

/-! ### skiarearef31_Of: function 24 -/
mutual
def skiarearef31_Of.l0 : Nat → List (S28) → Int → List (S28) → Int → Option ((List (S28)))
 | 0, _, _, _, _ => none
 | k + 1, x0, x1, x5, x6 => if x6 < (x0.length : Int) then (if 0 ≤ x6 then (if ((rd_T28 x0 x6).f2) = x1 then (if x5.length < 2513169434916 then ((some (x5 ++ [(⟨(rd_T28 x0 x6).f0, (rd_T28 x0 x6).f1, (rd_T28 x0 x6).f2, (rd_T28 x0 x6).f3, (rd_T28 x0 x6).f4, (rd_T28 x0 x6).f5, (rd_T28 x0 x6).f6⟩ : S28)] : List (S28))).bind fun y532 => (skiarearef31_Of.l1 k x0 x1 y532 x6 (wrap64 ((y532.length : Int) - 1)))) else (none)) else (skiarearef31_Of.l0 k x0 x1 x5 (wrap64 (x6 + 1)))) else (none)) else (some x5)
def skiarearef31_Of.l1 : Nat → List (S28) → Int → List (S28) → Int → Int → Option ((List (S28)))
 | 0, _, _, _, _, _ => none
 | k + 1, x0, x1, x5, x6, x7 => if x7 > 0 then (if 0 ≤ x7 then (if x7 < (x5.length : Int) then (if 0 ≤ (wrap64 (x7 - 1)) then (if (wrap64 (x7 - 1)) < (x5.length : Int) then ((skiarearef31_earlier.f ((rd_T28 x5 x7).f0) ((rd_T28 x5 x7).f1) ((rd_T28 x5 x7).f2) ((rd_T28 x5 x7).f3) ((rd_T28 x5 x7).f4) ((rd_T28 x5 x7).f5) ((rd_T28 x5 x7).f6) ((rd_T28 x5 (wrap64 (x7 - 1))).f0) ((rd_T28 x5 (wrap64 (x7 - 1))).f1) ((rd_T28 x5 (wrap64 (x7 - 1))).f2) ((rd_T28 x5 (wrap64 (x7 - 1))).f3) ((rd_T28 x5 (wrap64 (x7 - 1))).f4) ((rd_T28 x5 (wrap64 (x7 - 1))).f5) ((rd_T28 x5 (wrap64 (x7 - 1))).f6)).bind fun t537 => (if t537 = true then (skiarearef31_Of.l1 k x0 x1 ((x5.set (x7 : Int).toNat (⟨(rd_T28 x5 (wrap64 (x7 - 1))).f0, (rd_T28 x5 (wrap64 (x7 - 1))).f1, (rd_T28 x5 (wrap64 (x7 - 1))).f2, (rd_T28 x5 (wrap64 (x7 - 1))).f3, (rd_T28 x5 (wrap64 (x7 - 1))).f4, (rd_T28 x5 (wrap64 (x7 - 1))).f5, (rd_T28 x5 (wrap64 (x7 - 1))).f6⟩ : S28)).set ((wrap64 (x7 - 1)) : Int).toNat (⟨(rd_T28 x5 x7).f0, (rd_T28 x5 x7).f1, (rd_T28 x5 x7).f2, (rd_T28 x5 x7).f3, (rd_T28 x5 x7).f4, (rd_T28 x5 x7).f5, (rd_T28 x5 x7).f6⟩ : S28)) x6 (wrap64 (x7 - 1))) else (skiarearef31_Of.l0 k x0 x1 x5 (wrap64 (x6 + 1))))) else (none)) else (none)) else (none)) else (none)) else (skiarearef31_Of.l0 k x0 x1 x5 (wrap64 (x6 + 1)))
end
def skiarearef31_Of.f (k : Nat) (l0 : List (S28)) (a1 : Int) : Option ((List (S28))) := skiarearef31_Of.l0 k l0 a1 ([] : List (S28)) 0
set_option maxRecDepth 100000 in
theorem skiarearef31_Of.mono_l : ∀ k, (∀ y0 y1 y2 y3, LeO (skiarearef31_Of.l0 k y0 y1 y2 y3) (skiarearef31_Of.l0 (k + 1) y0 y1 y2 y3)) ∧ (∀ y0 y1 y2 y3 y4, LeO (skiarearef31_Of.l1 k y0 y1 y2 y3 y4) (skiarearef31_Of.l1 (k + 1) y0 y1 y2 y3 y4))
 | 0 => ⟨fun _ _ _ _ r h => by simp [skiarearef31_Of.l0] at h, fun _ _ _ _ _ r h => by simp [skiarearef31_Of.l1] at h⟩
 | k + 1 => by
  obtain ⟨ih0, ih1⟩ := skiarearef31_Of.mono_l k
  refine ⟨?_, ?_⟩
  ·intro y0 y1 y2 y3
   unfold skiarearef31_Of.l0
   repeat' first
   | (with_reducible exact ih0 _ _ _ _)
   | (with_reducible exact ih1 _ _ _ _ _)
   | (with_reducible exact LeO.refl _)
   | (with_reducible exact LeO.none _)
   | (with_reducible refine LeO.ite ?_ ?_)
   | (with_reducible refine LeO.bind ?_ (fun _ => ?_))
   | exact ih0 _ _ _ _
   | exact ih1 _ _ _ _ _
   | exact LeO.none _
   | refine LeO.ite ?_ ?_
   | refine LeO.bind ?_ (fun _ => ?_)
  ·intro y0 y1 y2 y3 y4
   unfold skiarearef31_Of.l1
   repeat' first
   | (with_reducible exact ih0 _ _ _ _)
   | (with_reducible exact ih1 _ _ _ _ _)
   | (with_reducible exact LeO.refl _)
   | (with_reducible exact LeO.none _)
   | (with_reducible refine LeO.ite ?_ ?_)
   | (with_reducible refine LeO.bind ?_ (fun _ => ?_))
   | exact ih0 _ _ _ _
   | exact ih1 _ _ _ _ _
   | exact LeO.none _
   | refine LeO.ite ?_ ?_
   | refine LeO.bind ?_ (fun _ => ?_)
theorem skiarearef31_Of.mono : ∀ a0 a1 k, LeO (skiarearef31_Of.f k a0 a1) (skiarearef31_Of.f (k + 1) a0 a1) := by
 intro a0 a1 k
 obtain ⟨ih0, ih1⟩ := skiarearef31_Of.mono_l k
 unfold skiarearef31_Of.f
 repeat' first
   | (with_reducible exact ih0 _ _ _ _)
   | (with_reducible exact ih1 _ _ _ _ _)
   | (with_reducible exact LeO.refl _)
   | (with_reducible exact LeO.none _)
   | (with_reducible refine LeO.ite ?_ ?_)
   | (with_reducible refine LeO.bind ?_ (fun _ => ?_))
   | exact ih0 _ _ _ _
   | exact ih1 _ _ _ _ _
   | exact LeO.none _
   | refine LeO.ite ?_ ?_
   | refine LeO.bind ?_ (fun _ => ?_)
def skiarearef31_Of.T8 : Bool × List (List Nat × List Nat) := (true, [([], []), ([0], [0]), ([1], [1]), ([2], [2]), ([2], [2]), ([3, 4, 2], [2, 3, 4]), ([5, 2], [2, 5]), ([2], [2]), ([2], [2]), ([8, 2], [2, 8]), ([7, 9, 2], [2, 7, 9]), ([10, 2], [2, 10]), ([6, 11, 2, 2], [2, 6, 11]), ([2, 12], [2, 12])])
def skiarearef31_Of.B8 : List Nat := [0, 1, 3, 7, 7, 31, 63, 7, 7, 263, 903, 1927, 4095, 8191]
theorem skiarearef31_Of.tab8 : rtab .any (opsOf Try.f24 8) = skiarearef31_Of.T8 := by kernel_rfl
theorem skiarearef31_Of.bits8 : waitsOk skiarearef31_Of.T8.2 skiarearef31_Of.B8 = true := by kernel_rfl
def skiarearef31_Of.T10 : Bool × List (List Nat × List Nat) := (true, [([], []), ([], []), ([], []), ([], []), ([3], [3]), ([], []), ([], []), ([6], [6]), ([5, 7], [5, 7]), ([8], [8]), ([], []), ([], []), ([10, 11], [10, 11]), ([12], [12]), ([0, 1, 0, 1, 5, 6, 7, 8, 9, 13], [0, 1]), ([14, 9, 0, 1, 5, 6, 7, 8, 9, 13], [9, 14]), ([2, 4, 0, 1, 2, 3, 4, 5, 6, 7, 8, 9, 10, 11, 12, 13, 14, 15], [2, 4]), ([16, 13, 15, 0, 1, 2, 3, 4, 5, 6, 7, 8, 9, 10, 11, 12, 13, 14, 15], [13, 16])])
def skiarearef31_Of.B10 : List Nat := [0, 0, 0, 0, 8, 0, 0, 64, 224, 480, 0, 0, 3072, 7168, 16355, 32739, 65535, 131071]
theorem skiarearef31_Of.tab10 : rtab .any (opsOf Try.f24 10) = skiarearef31_Of.T10 := by kernel_rfl
theorem skiarearef31_Of.bits10 : waitsOk skiarearef31_Of.T10.2 skiarearef31_Of.B10 = true := by kernel_rfl
set_option maxHeartbeats 8000000 in
set_option maxRecDepth 100000 in
theorem skiarearef31_Of.calls (k : Nat) (A0 : Option Addr) (c0 : Nat) (l0 : List (S28)) (a1 : Int) (r : List (S28)) (w : World) (hr0 : Kd.C k28 w A0 l0.length l0) (hc0 : l0.length ≤ c0) (h : skiarearef31_Of.f k l0 a1 = some r) :
  Calls Try.prog 24 #[.slice A0 l0.length c0, .int .i64 a1] w fun e w' => ∃ v0_ : Value, e = .returned (v0_) ∧ Kd.R k28 28 w' w.heap.size (fun _ => True) v0_ r ∧ Below w.heap.size w w' := by
 have hu28 := Try.underlying28
 have HR0 := Aside0.mk hr0
 have HC0 := Aside0.mk hc0
 clear hr0 hc0
 have HB := Aside0.mk (Below.refl w.heap.size w)
 have H : (skiarearef31_Of.l0 k l0 a1 ([] : List (S28)) 0) = some r := h
 clear h
 have H' := Aside0.mk H
 clear H
 go_enter Try.func24, Try.ntmps24
 go_wp2
 go_loopg [5, 6] k (fun kq v5 v6 w' => ∃ (x5_1 : List (S28)) (x6_1 : Int), v6 = .int .i64 x6_1 ∧ Aside0 (skiarearef31_Of.l0 kq l0 a1 x5_1 x6_1 = some r) ∧ Aside0 (kq ≤ k) ∧ Aside0 (Kd.R k28 28 w' w.heap.size (fun _ => True) v5 x5_1) ∧ Aside0 (Below w.heap.size w w'))
 case atStart => exact ⟨(([] : List (S28))), (0), (by first | rfl | (simp; done) | (simp [*]; done)), H', ⟨Nat.le_refl _⟩, ⟨by first | exact Kd.R_nil _ _ _ _ _ | exact Kd.N_nil _ _ _ _ _ | exact Kd.V_nil _ _ _ _ _ | exact Kd.Q_nil _ _ _ _ _ | exact Kd.S_nil _ _ _ _ _⟩, ⟨by repeat (first | (with_reducible first | exact HB.out | apply below_alloc | apply pw_below_drewN | apply below_drew1) | exact HB.out)⟩⟩
 case round =>
  clear H'
  try clear c2
  try clear p2
  obtain ⟨x5_1, x6_1, rfl, HA, HK1, HO_5, HB⟩ := hrel
  cases gk with
  | zero => exact absurd HA.out (by simp [skiarearef31_Of.l0])
  | succ k1 =>
   have H := HA.out
   clear HA
   simp only [skiarearef31_Of.l0] at H
   by_cases c3 : x6_1 < (l0.length : Int)
   ·rw [if_pos c3] at H
    have c3b0 : decide (x6_1 < (l0.length : Int)) = true := decide_eq_true c3
    clear c3
    by_cases c4 : 0 ≤ x6_1
    ·rw [if_pos c4] at H
     have c4b0 : decide (0 ≤ x6_1) = true := decide_eq_true c4
     clear c4
     by_cases c5 : ((rd_T28 l0 x6_1).f2) = a1
     ·rw [if_pos c5] at H
      have c5b0 : (((rd_T28 l0 x6_1).f2) == a1) = true := beq_iff_eq.mpr c5
      have c5b1 : (((rd_T28 l0 x6_1).f2) != a1) = false := bne_eq_false_iff_eq.mpr c5
      clear c5
      by_cases c6 : x5_1.length < 2513169434916
      ·rw [if_pos c6] at H
       have LMc6 := Aside0.mk c6
       clear c6
       obtain ⟨y532, hy532⟩ : ∃ y_ : List (S28), y_ = (x5_1 ++ [(⟨(rd_T28 l0 x6_1).f0, (rd_T28 l0 x6_1).f1, (rd_T28 l0 x6_1).f2, (rd_T28 l0 x6_1).f3, (rd_T28 l0 x6_1).f4, (rd_T28 l0 x6_1).f5, (rd_T28 l0 x6_1).f6⟩ : S28)]) := ⟨_, rfl⟩
       replace H : (skiarearef31_Of.l1 k1 l0 a1 y532 x6_1 (wrap64 ((y532.length : Int) - 1))) = some r := by first | (rw [hy532]; with_reducible exact H) | (have H2_ := (Option.bind_some _ _).symm.trans H; rw [hy532]; with_reducible exact H2_) | (have H2_ := (Option.bind_some _ _).symm.trans H; with_reducible exact H2_) | with_reducible exact H | (rw [hy532]; exact H) | exact H
       have Ny532 := Aside0.mk hy532
       clear hy532
       have H' := Aside0.mk H
       clear H
       have p530 : 0 ≤ (x6_1 : Int) := of_decide_eq_true (by first | (with_reducible assumption) | assumption)
       have q530 : x6_1 < (l0.length : Int) := of_decide_eq_true (by first | (with_reducible assumption) | assumption)
       obtain ⟨ad530, e530, hx530_0, hx530_1, hx530_2, hx530_3, hx530_4, hx530_5, hx530_6⟩ := at_T28 HR0.out x6_1 p530 q530
       cases e530
       replace hx530_0 := (HB.out.cell (World.block_lt_of_cell? w _ hx530_0)).trans hx530_0
       replace hx530_1 := (HB.out.cell (World.block_lt_of_cell? w _ hx530_1)).trans hx530_1
       replace hx530_2 := (HB.out.cell (World.block_lt_of_cell? w _ hx530_2)).trans hx530_2
       replace hx530_3 := (HB.out.cell (World.block_lt_of_cell? w _ hx530_3)).trans hx530_3
       replace hx530_4 := (HB.out.cell (World.block_lt_of_cell? w _ hx530_4)).trans hx530_4
       replace hx530_5 := (HB.out.cell (World.block_lt_of_cell? w _ hx530_5)).trans hx530_5
       replace hx530_6 := (HB.out.cell (World.block_lt_of_cell? w _ hx530_6)).trans hx530_6
       replace p530 := eq_true p530
       replace q530 := eq_true q530
       have p531 : 0 ≤ (x6_1 : Int) := of_decide_eq_true (by first | (with_reducible assumption) | assumption)
       have q531 : x6_1 < (l0.length : Int) := of_decide_eq_true (by first | (with_reducible assumption) | assumption)
       obtain ⟨ad531, e531, hx531_0, hx531_1, hx531_2, hx531_3, hx531_4, hx531_5, hx531_6⟩ := at_T28 HR0.out x6_1 p531 q531
       obtain rfl : ad530 = ad531 := (by injection e531)
       replace hx531_0 := (HB.out.cell (World.block_lt_of_cell? w _ hx531_0)).trans hx531_0
       replace hx531_1 := (HB.out.cell (World.block_lt_of_cell? w _ hx531_1)).trans hx531_1
       replace hx531_2 := (HB.out.cell (World.block_lt_of_cell? w _ hx531_2)).trans hx531_2
       replace hx531_3 := (HB.out.cell (World.block_lt_of_cell? w _ hx531_3)).trans hx531_3
       replace hx531_4 := (HB.out.cell (World.block_lt_of_cell? w _ hx531_4)).trans hx531_4
       replace hx531_5 := (HB.out.cell (World.block_lt_of_cell? w _ hx531_5)).trans hx531_5
       replace hx531_6 := (HB.out.cell (World.block_lt_of_cell? w _ hx531_6)).trans hx531_6
       replace p531 := eq_true p531
       replace q531 := eq_true q531
       go_wp2_with (first | ((with_reducible refine gate_builtin (b := .append) (xs := #[.tmp 21, .tmp 26]) rfl ?_); at_builtin; refine Kd.R_append k28 (w0 := w) w.heap.size rfl (.tmp 21) (.tmp 26) 22 28 (.agg #[(.int .i64 0), (.int .i64 0), (.int .i64 0), (.int .i64 0), (.int .i64 0), (.int .i64 0), (.int .i64 0)]) 56 rfl Try.underlying22 info28 rfl (by decide) (by omega) u5 x5_1 (⟨(rd_T28 l0 x6_1).f0, (rd_T28 l0 x6_1).f1, (rd_T28 l0 x6_1).f2, (rd_T28 l0 x6_1).f3, (rd_T28 l0 x6_1).f4, (rd_T28 l0 x6_1).f5, (rd_T28 l0 x6_1).f6⟩ : S28) [.int .i64 ((rd_T28 l0 x6_1).f0), .int .i64 ((rd_T28 l0 x6_1).f1), .int .i64 ((rd_T28 l0 x6_1).f2), .int .i64 ((rd_T28 l0 x6_1).f3), .int .i64 ((rd_T28 l0 x6_1).f4), .int .i64 ((rd_T28 l0 x6_1).f5), .int .i64 ((rd_T28 l0 x6_1).f6)] (fun _ => True) (fun _ => False) rfl rfl ?aP (fun _ hk => hk.elim) ?aF ?aO ?aB ?aS ?aL ?_; (case aP => exact k28_mkM _ _ _ (⟨(rd_T28 l0 x6_1).f0, (rd_T28 l0 x6_1).f1, (rd_T28 l0 x6_1).f2, (rd_T28 l0 x6_1).f3, (rd_T28 l0 x6_1).f4, (rd_T28 l0 x6_1).f5, (rd_T28 l0 x6_1).f6⟩ : S28)); (case aB => exact (by repeat (first | (with_reducible first | exact HB.out | apply below_alloc | apply pw_below_drewN | apply below_drew1) | exact HB.out))); (case aF => exact (fun _ _ => trivial)); (case aO => exact (by (with_reducible repeat (first | apply Kd.R_alloc | apply Kd.R_drewN | apply Kd.R_drew)); exact HO_5.out)); (case aS => exact (below_size (by repeat (first | (with_reducible first | exact HB.out | apply below_alloc | apply pw_below_drewN | apply below_drew1) | exact HB.out)))); (case aL => have := LMc6.out; omega); intro v533 w7 ho hb hg hat; rw [← Ny532.out] at ho; have n0_ := Aside0.mk (hb); have n1_ := Aside0.mk (ho); clear HB; clear HO_5; have HB := n0_; have HO534 := n1_; clear n0_ n1_; clear ho hb hg hat; obtain ⟨Ao8, co8, eo8⟩ := Kd.R_slice HO534.out; subst eo8))
       go_loopg [7] k1 (fun kq v7 w' => ∃ (x5_2 : List (S28)) (x7_2 : Int), v7 = .int .i64 x7_2 ∧ Aside0 (skiarearef31_Of.l1 kq l0 a1 x5_2 x6_1 x7_2 = some r) ∧ Aside0 (kq ≤ k1) ∧ Aside0 (Kd.R k28 28 w' w.heap.size (fun _ => True) (.slice Ao8 y532.length co8) x5_2) ∧ Aside0 (Below w.heap.size w w'))
       case atStart => exact ⟨(y532), (wrap64 ((y532.length : Int) - 1)), (by first | rfl | (simp; done) | (simp [*]; done)), H', ⟨Nat.le_refl _⟩, ⟨by (with_reducible repeat (first | apply Kd.R_alloc | apply Kd.R_drewN | apply Kd.R_drew)); exact HO534.out⟩, ⟨by repeat (first | (with_reducible first | exact HB.out | apply below_alloc | apply pw_below_drewN | apply below_drew1) | exact HB.out)⟩⟩
       case round =>
        clear H'
        try clear c2
        try clear p2
        try clear c3
        try clear c3b0
        try clear c4
        try clear c4b0
        try clear c5
        try clear c5b0
        try clear c5b1
        try clear p5
        try clear q5
        try clear hx5
        try clear c6
        try clear p6
        try clear hx530_0
        try clear hx530_1
        try clear hx530_2
        try clear hx530_3
        try clear hx530_4
        try clear hx530_5
        try clear hx530_6
        try clear hx531_0
        try clear hx531_1
        try clear hx531_2
        try clear hx531_3
        try clear hx531_4
        try clear hx531_5
        try clear hx531_6
        try clear p2
        try clear p530
        try clear p531
        try clear q530
        try clear q531
        obtain ⟨x5_2, x7_2, rfl, HA, HK2, HO_5, HB⟩ := hrel
        have hl5_2 := (Kd.R_reads' HO_5.out).1
        rw [hl5_2] at HO_5
        (try simp only [hl5_2])
        cases gk with
        | zero => exact absurd HA.out (by simp [skiarearef31_Of.l1])
        | succ k2 =>
         have H := HA.out
         clear HA
         simp only [skiarearef31_Of.l1] at H
         by_cases c9 : x7_2 > 0
         ·rw [if_pos c9] at H
          have c9b0 : decide (0 < x7_2) = true := decide_eq_true c9
          clear c9
          by_cases c10 : 0 ≤ x7_2
          ·rw [if_pos c10] at H
           have c10b0 : decide (0 ≤ x7_2) = true := decide_eq_true c10
           clear c10
           by_cases c11 : x7_2 < (x5_2.length : Int)
           ·rw [if_pos c11] at H
            have c11b0 : decide (x7_2 < (x5_2.length : Int)) = true := decide_eq_true c11
            clear c11
            obtain ⟨ji12, hji12⟩ : ∃ j_ : Int, (wrap64 (x7_2 - 1)) = j_ := ⟨_, rfl⟩
            replace H : (if 0 ≤ (ji12) then (if (ji12) < (x5_2.length : Int) then ((skiarearef31_earlier.f ((rd_T28 x5_2 x7_2).f0) ((rd_T28 x5_2 x7_2).f1) ((rd_T28 x5_2 x7_2).f2) ((rd_T28 x5_2 x7_2).f3) ((rd_T28 x5_2 x7_2).f4) ((rd_T28 x5_2 x7_2).f5) ((rd_T28 x5_2 x7_2).f6) ((rd_T28 x5_2 (ji12)).f0) ((rd_T28 x5_2 (ji12)).f1) ((rd_T28 x5_2 (ji12)).f2) ((rd_T28 x5_2 (ji12)).f3) ((rd_T28 x5_2 (ji12)).f4) ((rd_T28 x5_2 (ji12)).f5) ((rd_T28 x5_2 (ji12)).f6)).bind fun t537 => (if t537 = true then (skiarearef31_Of.l1 k2 l0 a1 ((x5_2.set (x7_2 : Int).toNat (⟨(rd_T28 x5_2 (ji12)).f0, (rd_T28 x5_2 (ji12)).f1, (rd_T28 x5_2 (ji12)).f2, (rd_T28 x5_2 (ji12)).f3, (rd_T28 x5_2 (ji12)).f4, (rd_T28 x5_2 (ji12)).f5, (rd_T28 x5_2 (ji12)).f6⟩ : S28)).set ((ji12) : Int).toNat (⟨(rd_T28 x5_2 x7_2).f0, (rd_T28 x5_2 x7_2).f1, (rd_T28 x5_2 x7_2).f2, (rd_T28 x5_2 x7_2).f3, (rd_T28 x5_2 x7_2).f4, (rd_T28 x5_2 x7_2).f5, (rd_T28 x5_2 x7_2).f6⟩ : S28)) x6_1 ji12) else (skiarearef31_Of.l0 k2 l0 a1 x5_2 (wrap64 (x6_1 + 1))))) else (none)) else (none)) = some r := by first | (rw [hji12] at H; exact H) | (simp only [hji12] at H ⊢; exact H)
            have hji12w : (IntKind.i64.wrap (x7_2 - 1)) = ji12 := (i64_w _).trans hji12
            by_cases c13 : 0 ≤ (ji12)
            ·rw [if_pos c13] at H
             have c13b0 : decide (0 ≤ (ji12)) = true := decide_eq_true c13
             clear c13
             by_cases c14 : (ji12) < (x5_2.length : Int)
             ·rw [if_pos c14] at H
              have c14b0 : decide ((ji12) < (x5_2.length : Int)) = true := decide_eq_true c14
              clear c14
              replace H := Option.bind_eq_some_iff.mp H
              obtain ⟨t537, A150, H⟩ := H
              replace H : (if t537 = true then (skiarearef31_Of.l1 k2 l0 a1 ((x5_2.set (x7_2 : Int).toNat (⟨(rd_T28 x5_2 (ji12)).f0, (rd_T28 x5_2 (ji12)).f1, (rd_T28 x5_2 (ji12)).f2, (rd_T28 x5_2 (ji12)).f3, (rd_T28 x5_2 (ji12)).f4, (rd_T28 x5_2 (ji12)).f5, (rd_T28 x5_2 (ji12)).f6⟩ : S28)).set ((ji12) : Int).toNat (⟨(rd_T28 x5_2 x7_2).f0, (rd_T28 x5_2 x7_2).f1, (rd_T28 x5_2 x7_2).f2, (rd_T28 x5_2 x7_2).f3, (rd_T28 x5_2 x7_2).f4, (rd_T28 x5_2 x7_2).f5, (rd_T28 x5_2 x7_2).f6⟩ : S28)) x6_1 ji12) else (skiarearef31_Of.l0 k2 l0 a1 x5_2 (wrap64 (x6_1 + 1)))) = some r := H
              have A15 := Aside0.mk A150
              clear A150
              by_cases c16 : t537 = true
              ·subst c16
               have H1 : (skiarearef31_Of.l1 k2 l0 a1 ((x5_2.set (x7_2 : Int).toNat (⟨(rd_T28 x5_2 (ji12)).f0, (rd_T28 x5_2 (ji12)).f1, (rd_T28 x5_2 (ji12)).f2, (rd_T28 x5_2 (ji12)).f3, (rd_T28 x5_2 (ji12)).f4, (rd_T28 x5_2 (ji12)).f5, (rd_T28 x5_2 (ji12)).f6⟩ : S28)).set ((ji12) : Int).toNat (⟨(rd_T28 x5_2 x7_2).f0, (rd_T28 x5_2 x7_2).f1, (rd_T28 x5_2 x7_2).f2, (rd_T28 x5_2 x7_2).f3, (rd_T28 x5_2 x7_2).f4, (rd_T28 x5_2 x7_2).f5, (rd_T28 x5_2 x7_2).f6⟩ : S28)) x6_1 ji12) = some r := by rw [if_pos rfl] at H; exact H
               clear H
               have H := H1
               clear H1
               obtain ⟨y540, hy540⟩ : ∃ y_ : List (S28), y_ = (x5_2.set (x7_2 : Int).toNat (⟨(rd_T28 x5_2 (ji12)).f0, (rd_T28 x5_2 (ji12)).f1, (rd_T28 x5_2 (ji12)).f2, (rd_T28 x5_2 (ji12)).f3, (rd_T28 x5_2 (ji12)).f4, (rd_T28 x5_2 (ji12)).f5, (rd_T28 x5_2 (ji12)).f6⟩ : S28)) := ⟨_, rfl⟩
               replace H : (skiarearef31_Of.l1 k2 l0 a1 (y540.set ((ji12) : Int).toNat (⟨(rd_T28 x5_2 x7_2).f0, (rd_T28 x5_2 x7_2).f1, (rd_T28 x5_2 x7_2).f2, (rd_T28 x5_2 x7_2).f3, (rd_T28 x5_2 x7_2).f4, (rd_T28 x5_2 x7_2).f5, (rd_T28 x5_2 x7_2).f6⟩ : S28)) x6_1 ji12) = some r := by first | (rw [hy540]; with_reducible exact H) | (have H2_ := (Option.bind_some _ _).symm.trans H; rw [hy540]; with_reducible exact H2_) | (have H2_ := (Option.bind_some _ _).symm.trans H; with_reducible exact H2_) | with_reducible exact H | (rw [hy540]; exact H) | exact H
               have Ny540 := Aside0.mk hy540
               clear hy540
               obtain ⟨y541, hy541⟩ : ∃ y_ : List (S28), y_ = (y540.set ((ji12) : Int).toNat (⟨(rd_T28 x5_2 x7_2).f0, (rd_T28 x5_2 x7_2).f1, (rd_T28 x5_2 x7_2).f2, (rd_T28 x5_2 x7_2).f3, (rd_T28 x5_2 x7_2).f4, (rd_T28 x5_2 x7_2).f5, (rd_T28 x5_2 x7_2).f6⟩ : S28)) := ⟨_, rfl⟩
               replace H : (skiarearef31_Of.l1 k2 l0 a1 y541 x6_1 ji12) = some r := by first | (rw [hy541]; with_reducible exact H) | (have H2_ := (Option.bind_some _ _).symm.trans H; rw [hy541]; with_reducible exact H2_) | (have H2_ := (Option.bind_some _ _).symm.trans H; with_reducible exact H2_) | with_reducible exact H | (rw [hy541]; exact H) | exact H
               have Ny541 := Aside0.mk hy541
               clear hy541
               have H' := Aside0.mk H
               clear H
               try go_wp2
               have n0_ := Aside0.mk (Kd.R_drew HO_5.out)
               have n1_ := Aside0.mk (below_drew1 HB.out)
               clear HO_5
               clear HB
               have HO_5 := n0_
               have HB := n1_
               clear n0_ n1_
               have p535 : 0 ≤ (x7_2 : Int) := of_decide_eq_true (by first | (with_reducible assumption) | assumption)
               have q535 : x7_2 < (x5_2.length : Int) := of_decide_eq_true (by first | (with_reducible assumption) | assumption)
               obtain ⟨ad535, e535, hx535_0, hx535_1, hx535_2, hx535_3, hx535_4, hx535_5, hx535_6⟩ := at_T28 (Kd.R_reads' HO_5.out).2.2 x7_2 p535 q535
               cases e535
               replace p535 := eq_true p535
               replace q535 := eq_true q535
               have p536 : 0 ≤ ((ji12) : Int) := of_decide_eq_true (by first | (with_reducible assumption) | assumption)
               have q536 : (ji12) < (x5_2.length : Int) := of_decide_eq_true (by first | (with_reducible assumption) | assumption)
               obtain ⟨ad536, e536, hx536_0, hx536_1, hx536_2, hx536_3, hx536_4, hx536_5, hx536_6⟩ := at_T28 (Kd.R_reads' HO_5.out).2.2 (ji12) p536 q536
               obtain rfl : ad535 = ad536 := (by injection e536)
               replace p536 := eq_true p536
               replace q536 := eq_true q536
               refine start_ (n := 14) (S := fun w' => w'.cell? (ad535.add ((x7_2).toNat * 7)) = some (.int .i64 ((rd_T28 x5_2 x7_2).f0)) ∧ w'.cell? ⟨(ad535.add ((x7_2).toNat * 7)).block, (ad535.add ((x7_2).toNat * 7)).off + 1, none⟩ = some (.int .i64 ((rd_T28 x5_2 x7_2).f1)) ∧ w'.cell? ⟨(ad535.add ((x7_2).toNat * 7)).block, (ad535.add ((x7_2).toNat * 7)).off + 2, none⟩ = some (.int .i64 ((rd_T28 x5_2 x7_2).f2)) ∧ w'.cell? ⟨(ad535.add ((x7_2).toNat * 7)).block, (ad535.add ((x7_2).toNat * 7)).off + 3, none⟩ = some (.int .i64 ((rd_T28 x5_2 x7_2).f3)) ∧ w'.cell? ⟨(ad535.add ((x7_2).toNat * 7)).block, (ad535.add ((x7_2).toNat * 7)).off + 4, none⟩ = some (.int .i64 ((rd_T28 x5_2 x7_2).f4)) ∧ w'.cell? ⟨(ad535.add ((x7_2).toNat * 7)).block, (ad535.add ((x7_2).toNat * 7)).off + 5, none⟩ = some (.int .i64 ((rd_T28 x5_2 x7_2).f5)) ∧ w'.cell? ⟨(ad535.add ((x7_2).toNat * 7)).block, (ad535.add ((x7_2).toNat * 7)).off + 6, none⟩ = some (.int .i64 ((rd_T28 x5_2 x7_2).f6)) ∧ w'.cell? (ad535.add (((ji12)).toNat * 7)) = some (.int .i64 ((rd_T28 x5_2 (ji12)).f0)) ∧ w'.cell? ⟨(ad535.add (((ji12)).toNat * 7)).block, (ad535.add (((ji12)).toNat * 7)).off + 1, none⟩ = some (.int .i64 ((rd_T28 x5_2 (ji12)).f1)) ∧ w'.cell? ⟨(ad535.add (((ji12)).toNat * 7)).block, (ad535.add (((ji12)).toNat * 7)).off + 2, none⟩ = some (.int .i64 ((rd_T28 x5_2 (ji12)).f2)) ∧ w'.cell? ⟨(ad535.add (((ji12)).toNat * 7)).block, (ad535.add (((ji12)).toNat * 7)).off + 3, none⟩ = some (.int .i64 ((rd_T28 x5_2 (ji12)).f3)) ∧ w'.cell? ⟨(ad535.add (((ji12)).toNat * 7)).block, (ad535.add (((ji12)).toNat * 7)).off + 4, none⟩ = some (.int .i64 ((rd_T28 x5_2 (ji12)).f4)) ∧ w'.cell? ⟨(ad535.add (((ji12)).toNat * 7)).block, (ad535.add (((ji12)).toNat * 7)).off + 5, none⟩ = some (.int .i64 ((rd_T28 x5_2 (ji12)).f5)) ∧ w'.cell? ⟨(ad535.add (((ji12)).toNat * 7)).block, (ad535.add (((ji12)).toNat * 7)).off + 6, none⟩ = some (.int .i64 ((rd_T28 x5_2 (ji12)).f6))) (ds := []) #[false, false, false, false, false, false, false, false, false, false, false, false, false, false] (by kernel_rfl) rfl rfl ⟨hx535_0, hx535_1, hx535_2, hx535_3, hx535_4, hx535_5, hx535_6, hx536_0, hx536_1, hx536_2, hx536_3, hx536_4, hx536_5, hx536_6⟩ (fun hHeld => ?_); refine with_tabW skiarearef31_Of.tab8 skiarearef31_Of.bits8 (fun HT_ HW_ => ?_)
               generalize wr.drew = w19 at HO_5 HB hx535_0 hx535_1 hx535_2 hx535_3 hx535_4 hx535_5 hx535_6 hx536_0 hx536_1 hx536_2 hx536_3 hx536_4 hx536_5 hx536_6 hHeld ⊢
               refine pure_ (i := 0) (N := some 31) (v := ?_) (a' := ?_) #[true, false, false, false, false, false, false, false, false, false, false, false, false, false] rfl rfl (any_of HT_.out (by kernel_rfl)) (fun _ _ _ h => h) (Or.inl ⟨by rfl, ?_⟩) ?_ ?_
               rotate_left
               ·intro w'
                go_simp
                with_reducible rfl
               rotate_left
               ·simp only [Act.put, List.setIfInBounds_toArray, List.set_cons_zero, List.set_cons_succ, i64_w, i32_w]
                rfl
               refine pure_ (i := 1) (N := some 32) (v := ?_) (a' := ?_) #[true, true, false, false, false, false, false, false, false, false, false, false, false, false] rfl rfl (any_of HT_.out (by kernel_rfl)) (fun _ _ _ h => h) (Or.inl ⟨by rfl, ?_⟩) ?_ ?_
               rotate_left
               ·intro w'
                go_simp
                with_reducible rfl
               rotate_left
               ·simp only [Act.put, List.setIfInBounds_toArray, List.set_cons_zero, List.set_cons_succ, i64_w, i32_w]
                rfl
               refine pure_ (i := 2) (N := some 33) (v := ?_) (a' := ?_) #[true, true, true, false, false, false, false, false, false, false, false, false, false, false] rfl rfl (any_of HT_.out (by kernel_rfl)) (fun _ _ _ h => h) (Or.inl ⟨by rfl, ?_⟩) ?_ ?_
               rotate_left
               ·intro w'
                go_simp
                with_reducible rfl
               rotate_left
               ·simp only [Act.put, List.setIfInBounds_toArray, List.set_cons_zero, List.set_cons_succ, i64_w, i32_w]
                rfl
               refine pure_ (i := 3) (N := some 34) (v := ?_) (a' := ?_) #[true, true, true, true, false, false, false, false, false, false, false, false, false, false] rfl rfl (any_of HT_.out (by kernel_rfl)) (fun _ _ _ h => h) (Or.inl ⟨by rfl, ?_⟩) ?_ ?_
               rotate_left
               ·intro w'
                go_simp
                with_reducible rfl
               rotate_left
               ·simp only [Act.put, List.setIfInBounds_toArray, List.set_cons_zero, List.set_cons_succ, i64_w, i32_w]
                rfl
               refine pure_ (i := 4) (N := some 35) (v := ?_) (a' := ?_) #[true, true, true, true, true, false, false, false, false, false, false, false, false, false] rfl rfl (any_of HT_.out (by kernel_rfl)) (fun _ _ _ h => h) (Or.inl ⟨by rfl, ?_⟩) ?_ ?_
               rotate_left
               ·intro w'
                go_simp
                with_reducible rfl
               rotate_left
               ·simp only [Act.put, List.setIfInBounds_toArray, List.set_cons_zero, List.set_cons_succ, i64_w, i32_w]
                rfl
               refine pure_ (i := 5) (N := some 36) (v := ?_) (a' := ?_) #[true, true, true, true, true, true, false, false, false, false, false, false, false, false] rfl rfl (any_of HT_.out (by kernel_rfl)) (fun _ _ _ h => h) (Or.inl ⟨by rfl, ?_⟩) ?_ ?_
               rotate_left
               ·intro w'
                go_simp
                with_reducible rfl
               rotate_left
               ·simp only [Act.put, List.setIfInBounds_toArray, List.set_cons_zero, List.set_cons_succ, i64_w, i32_w]
                rfl
               refine pure_ (i := 7) (N := some 38) (v := ?_) (a' := ?_) #[true, true, true, true, true, true, false, true, false, false, false, false, false, false] rfl rfl (any_of HT_.out (by kernel_rfl)) (fun _ _ _ h => h) (Or.inl ⟨by rfl, ?_⟩) ?_ ?_
               rotate_left
               ·intro w'
                go_simp
                with_reducible rfl
               rotate_left
               ·simp only [Act.put, List.setIfInBounds_toArray, List.set_cons_zero, List.set_cons_succ, i64_w, i32_w]
                rfl
               refine pure_ (i := 8) (N := some 39) (v := ?_) (a' := ?_) #[true, true, true, true, true, true, false, true, true, false, false, false, false, false] rfl rfl (any_of HT_.out (by kernel_rfl)) (fun _ _ _ h => h) (Or.inl ⟨by rfl, ?_⟩) ?_ ?_
               rotate_left
               ·intro w'
                go_simp
                with_reducible rfl
               rotate_left
               ·simp only [Act.put, List.setIfInBounds_toArray, List.set_cons_zero, List.set_cons_succ, i64_w, i32_w]
                rfl
               refine pure_ (i := 9) (N := some 40) (v := ?_) (a' := ?_) #[true, true, true, true, true, true, false, true, true, true, false, false, false, false] rfl rfl (any_of HT_.out (by kernel_rfl)) (fun _ _ _ h => h) (Or.inl ⟨by rfl, ?_⟩) ?_ ?_
               rotate_left
               ·intro w'
                go_simp
                with_reducible rfl
               rotate_left
               ·simp only [Act.put, List.setIfInBounds_toArray, List.set_cons_zero, List.set_cons_succ, i64_w, i32_w]
                rfl
               refine pure_ (i := 10) (N := some 41) (v := ?_) (a' := ?_) #[true, true, true, true, true, true, false, true, true, true, true, false, false, false] rfl rfl (any_of HT_.out (by kernel_rfl)) (fun _ _ _ h => h) (Or.inl ⟨by rfl, ?_⟩) ?_ ?_
               rotate_left
               ·intro w'
                go_simp
                with_reducible rfl
               rotate_left
               ·simp only [Act.put, List.setIfInBounds_toArray, List.set_cons_zero, List.set_cons_succ, i64_w, i32_w]
                rfl
               refine take_ (i := 6) (N := some 37) (v := ?_) (a' := ?_) #[true, true, true, true, true, true, true, true, true, true, true, false, false, false] rfl rfl (take_ofW HT_.out HW_.out (by kernel_rfl)) (fun _ _ _ h => h) (Or.inl ⟨by rfl, ?_⟩) hHeld ?_ ?_
               rotate_left
               ·rintro w' ⟨s0, s1, s2, s3, s4, s5, s6, s7, s8, s9, s10, s11, s12, s13⟩
                go_simp
                with_reducible rfl
               rotate_left
               ·simp only [Act.put, List.setIfInBounds_toArray, List.set_cons_zero, List.set_cons_succ, i64_w, i32_w]
                rfl
               refine take_ (i := 11) (N := some 42) (v := ?_) (a' := ?_) #[true, true, true, true, true, true, true, true, true, true, true, true, false, false] rfl rfl (take_ofW HT_.out HW_.out (by kernel_rfl)) (fun _ _ _ h => h) (Or.inl ⟨by rfl, ?_⟩) hHeld ?_ ?_
               rotate_left
               ·rintro w' ⟨s0, s1, s2, s3, s4, s5, s6, s7, s8, s9, s10, s11, s12, s13⟩
                go_simp
                with_reducible rfl
               rotate_left
               ·simp only [Act.put, List.setIfInBounds_toArray, List.set_cons_zero, List.set_cons_succ, i64_w, i32_w]
                rfl
               refine one_ (i := 12) (N := some 43) #[true, true, true, true, true, true, true, true, true, true, true, true, true, false] rfl rfl (one_of HT_.out (by kernel_rfl)) (by decide) (fun K hK => ?_)
               refine goes_ Try.func40 (by kernel_rfl) rfl #[.agg #[.int .i64 ((rd_T28 x5_2 x7_2).f0), .int .i64 ((rd_T28 x5_2 x7_2).f1), .int .i64 ((rd_T28 x5_2 x7_2).f2), .int .i64 ((rd_T28 x5_2 x7_2).f3), .int .i64 ((rd_T28 x5_2 x7_2).f4), .int .i64 ((rd_T28 x5_2 x7_2).f5), .int .i64 ((rd_T28 x5_2 x7_2).f6)], .agg #[.int .i64 ((rd_T28 x5_2 (ji12)).f0), .int .i64 ((rd_T28 x5_2 (ji12)).f1), .int .i64 ((rd_T28 x5_2 (ji12)).f2), .int .i64 ((rd_T28 x5_2 (ji12)).f3), .int .i64 ((rd_T28 x5_2 (ji12)).f4), .int .i64 ((rd_T28 x5_2 (ji12)).f5), .int .i64 ((rd_T28 x5_2 (ji12)).f6)]] (by rfl) rfl rfl (by (try simp only [List.map_toArray, List.map_cons, List.map_nil]); first | done | (simp only [hji12]; rfl) | rfl | (simp only [List.length_drop, List.length_take]; rfl)) ?_
               with_reducible refine (skiarearef31_earlier.calls ((rd_T28 x5_2 x7_2).f0) ((rd_T28 x5_2 x7_2).f1) ((rd_T28 x5_2 x7_2).f2) ((rd_T28 x5_2 x7_2).f3) ((rd_T28 x5_2 x7_2).f4) ((rd_T28 x5_2 x7_2).f5) ((rd_T28 x5_2 x7_2).f6) ((rd_T28 x5_2 (ji12)).f0) ((rd_T28 x5_2 (ji12)).f1) ((rd_T28 x5_2 (ji12)).f2) ((rd_T28 x5_2 (ji12)).f3) ((rd_T28 x5_2 (ji12)).f4) ((rd_T28 x5_2 (ji12)).f5) ((rd_T28 x5_2 (ji12)).f6) true _ A15.out).mono ?_
               rintro e w20 ⟨rfl, hb⟩
               have HS0_ := (hb.cell (World.block_lt_of_cell? _ _ (hHeld.1))).trans (hHeld.1)
               have HS1_ := (hb.cell (World.block_lt_of_cell? _ _ (hHeld.2.1))).trans (hHeld.2.1)
               have HS2_ := (hb.cell (World.block_lt_of_cell? _ _ (hHeld.2.2.1))).trans (hHeld.2.2.1)
               have HS3_ := (hb.cell (World.block_lt_of_cell? _ _ (hHeld.2.2.2.1))).trans (hHeld.2.2.2.1)
               have HS4_ := (hb.cell (World.block_lt_of_cell? _ _ (hHeld.2.2.2.2.1))).trans (hHeld.2.2.2.2.1)
               have HS5_ := (hb.cell (World.block_lt_of_cell? _ _ (hHeld.2.2.2.2.2.1))).trans (hHeld.2.2.2.2.2.1)
               have HS6_ := (hb.cell (World.block_lt_of_cell? _ _ (hHeld.2.2.2.2.2.2.1))).trans (hHeld.2.2.2.2.2.2.1)
               have HS7_ := (hb.cell (World.block_lt_of_cell? _ _ (hHeld.2.2.2.2.2.2.2.1))).trans (hHeld.2.2.2.2.2.2.2.1)
               have HS8_ := (hb.cell (World.block_lt_of_cell? _ _ (hHeld.2.2.2.2.2.2.2.2.1))).trans (hHeld.2.2.2.2.2.2.2.2.1)
               have HS9_ := (hb.cell (World.block_lt_of_cell? _ _ (hHeld.2.2.2.2.2.2.2.2.2.1))).trans (hHeld.2.2.2.2.2.2.2.2.2.1)
               have HS10_ := (hb.cell (World.block_lt_of_cell? _ _ (hHeld.2.2.2.2.2.2.2.2.2.2.1))).trans (hHeld.2.2.2.2.2.2.2.2.2.2.1)
               have HS11_ := (hb.cell (World.block_lt_of_cell? _ _ (hHeld.2.2.2.2.2.2.2.2.2.2.2.1))).trans (hHeld.2.2.2.2.2.2.2.2.2.2.2.1)
               have HS12_ := (hb.cell (World.block_lt_of_cell? _ _ (hHeld.2.2.2.2.2.2.2.2.2.2.2.2.1))).trans (hHeld.2.2.2.2.2.2.2.2.2.2.2.2.1)
               have HS13_ := (hb.cell (World.block_lt_of_cell? _ _ (hHeld.2.2.2.2.2.2.2.2.2.2.2.2.2))).trans (hHeld.2.2.2.2.2.2.2.2.2.2.2.2.2)
               refine ⟨_, rfl, ?_⟩
               have n0_ := Aside0.mk (Kd.R_below (by (with_reducible repeat (first | apply Kd.R_alloc | apply Kd.R_drewN | apply Kd.R_drew)); exact HO_5.out) hb)
               have n1_ := Aside0.mk (below_step (by repeat (first | (with_reducible first | exact HB.out | apply below_alloc | apply pw_below_drewN | apply below_drew1) | exact HB.out)) hb)
               clear HO_5
               clear HB
               have HO_5 := n0_
               have HB := n1_
               clear n0_ n1_
               (try clear hb)
               (try clear hb2)
               (try clear hk)
               (try clear hi)
               refine hK.out _ _ ⟨HS0_, HS1_, HS2_, HS3_, HS4_, HS5_, HS6_, HS7_, HS8_, HS9_, HS10_, HS11_, HS12_, HS13_⟩ (fun hHeld => ?_)
               clear hK K
               refine norm_ (a' := ?_) ?_ ?_
               rotate_left
               ·show Act.put _ (some 43) _ = _
                simp only [Act.put, List.setIfInBounds_toArray, List.set_cons_zero, List.set_cons_succ, i64_w, i32_w]
                rfl
               refine pure_ (i := 13) (N := some 44) (v := ?_) (a' := ?_) #[true, true, true, true, true, true, true, true, true, true, true, true, true, true] rfl rfl (any_of HT_.out (by kernel_rfl)) (fun _ _ _ h => h) (Or.inl ⟨by rfl, ?_⟩) ?_ ?_
               rotate_left
               ·intro w'
                go_simp
                with_reducible rfl
               rotate_left
               ·simp only [Act.put, List.setIfInBounds_toArray, List.set_cons_zero, List.set_cons_succ, i64_w, i32_w]
                rfl
               refine done_ (done_of HT_.out (by kernel_rfl)) ?_
               try go_wp2
               have n0_ := Aside0.mk (Kd.R_drew HO_5.out)
               have n1_ := Aside0.mk (below_drew1 HB.out)
               clear HO_5
               clear HB
               have HO_5 := n0_
               have HB := n1_
               clear n0_ n1_
               have p538 : 0 ≤ ((ji12) : Int) := of_decide_eq_true (by first | (with_reducible assumption) | assumption)
               have q538 : (ji12) < (x5_2.length : Int) := of_decide_eq_true (by first | (with_reducible assumption) | assumption)
               obtain ⟨ad538, e538, hx538_0, hx538_1, hx538_2, hx538_3, hx538_4, hx538_5, hx538_6⟩ := at_T28 (Kd.R_reads' HO_5.out).2.2 (ji12) p538 q538
               obtain rfl : ad535 = ad538 := (by injection e538)
               replace p538 := eq_true p538
               replace q538 := eq_true q538
               have p539 : 0 ≤ (x7_2 : Int) := of_decide_eq_true (by first | (with_reducible assumption) | assumption)
               have q539 : x7_2 < (x5_2.length : Int) := of_decide_eq_true (by first | (with_reducible assumption) | assumption)
               obtain ⟨ad539, e539, hx539_0, hx539_1, hx539_2, hx539_3, hx539_4, hx539_5, hx539_6⟩ := at_T28 (Kd.R_reads' HO_5.out).2.2 x7_2 p539 q539
               obtain rfl : ad535 = ad539 := (by injection e539)
               replace p539 := eq_true p539
               replace q539 := eq_true q539
               have p17 : 0 ≤ (x7_2 : Int) := of_decide_eq_true (by first | (with_reducible assumption) | assumption)
               have q17 : (x7_2 : Int) < ((x5_2.length : Int) : Int) := of_decide_eq_true (by first | (with_reducible assumption) | assumption)
               obtain ⟨go17, co17, eo17, gb17, gl17, cl17, HG17⟩ := Kd.R_form HO_5.out (by omega)
               (first | cases eo17 | (injection eo17 with ea_ en_ ec_; (first | subst ea_ | (injection ea_ with ea_; subst ea_)); subst ec_; clear en_))
               have GB17 := Aside0.mk gb17
               have GG17 := Aside0.mk HG17
               clear gb17 gl17 HG17
               (first | simp only [add_plain] at hx535_0 | skip)
               (first | simp only [add_plain] at hx535_1 | skip)
               (first | simp only [add_plain] at hx535_2 | skip)
               (first | simp only [add_plain] at hx535_3 | skip)
               (first | simp only [add_plain] at hx535_4 | skip)
               (first | simp only [add_plain] at hx535_5 | skip)
               (first | simp only [add_plain] at hx535_6 | skip)
               (first | simp only [add_plain] at hx536_0 | skip)
               (first | simp only [add_plain] at hx536_1 | skip)
               (first | simp only [add_plain] at hx536_2 | skip)
               (first | simp only [add_plain] at hx536_3 | skip)
               (first | simp only [add_plain] at hx536_4 | skip)
               (first | simp only [add_plain] at hx536_5 | skip)
               (first | simp only [add_plain] at hx536_6 | skip)
               (first | simp only [add_plain] at hx538_0 | skip)
               (first | simp only [add_plain] at hx538_1 | skip)
               (first | simp only [add_plain] at hx538_2 | skip)
               (first | simp only [add_plain] at hx538_3 | skip)
               (first | simp only [add_plain] at hx538_4 | skip)
               (first | simp only [add_plain] at hx538_5 | skip)
               (first | simp only [add_plain] at hx538_6 | skip)
               (first | simp only [add_plain] at hx539_0 | skip)
               (first | simp only [add_plain] at hx539_1 | skip)
               (first | simp only [add_plain] at hx539_2 | skip)
               (first | simp only [add_plain] at hx539_3 | skip)
               (first | simp only [add_plain] at hx539_4 | skip)
               (first | simp only [add_plain] at hx539_5 | skip)
               (first | simp only [add_plain] at hx539_6 | skip)
               obtain ⟨ce17, hcl17, hM17, hcc17, hfr17⟩ := Kd.R_elem HO_5.out z28 (x7_2 : Int) p17 q17
               obtain rfl := k28_openM hM17
               have hx17_0 : World.cell? _ ⟨go17, (x7_2 : Int).toNat * 7, none⟩ = some (.int .i64 ((rd_T28 x5_2 x7_2).f0)) := hcc17 0 _ rfl
               have hx17_1 : World.cell? _ ⟨go17, (x7_2 : Int).toNat * 7 + 1, none⟩ = some (.int .i64 ((rd_T28 x5_2 x7_2).f1)) := hcc17 1 _ rfl
               have hx17_2 : World.cell? _ ⟨go17, (x7_2 : Int).toNat * 7 + 2, none⟩ = some (.int .i64 ((rd_T28 x5_2 x7_2).f2)) := hcc17 2 _ rfl
               have hx17_3 : World.cell? _ ⟨go17, (x7_2 : Int).toNat * 7 + 3, none⟩ = some (.int .i64 ((rd_T28 x5_2 x7_2).f3)) := hcc17 3 _ rfl
               have hx17_4 : World.cell? _ ⟨go17, (x7_2 : Int).toNat * 7 + 4, none⟩ = some (.int .i64 ((rd_T28 x5_2 x7_2).f4)) := hcc17 4 _ rfl
               have hx17_5 : World.cell? _ ⟨go17, (x7_2 : Int).toNat * 7 + 5, none⟩ = some (.int .i64 ((rd_T28 x5_2 x7_2).f5)) := hcc17 5 _ rfl
               have hx17_6 : World.cell? _ ⟨go17, (x7_2 : Int).toNat * 7 + 6, none⟩ = some (.int .i64 ((rd_T28 x5_2 x7_2).f6)) := hcc17 6 _ rfl
               have hf17_0 : World.frozen? _ ⟨go17, (x7_2 : Int).toNat * 7, none⟩ = false := hfr17 0
               have hf17_1 : World.frozen? _ ⟨go17, (x7_2 : Int).toNat * 7 + 1, none⟩ = false := hfr17 1
               have hf17_2 : World.frozen? _ ⟨go17, (x7_2 : Int).toNat * 7 + 2, none⟩ = false := hfr17 2
               have hf17_3 : World.frozen? _ ⟨go17, (x7_2 : Int).toNat * 7 + 3, none⟩ = false := hfr17 3
               have hf17_4 : World.frozen? _ ⟨go17, (x7_2 : Int).toNat * 7 + 4, none⟩ = false := hfr17 4
               have hf17_5 : World.frozen? _ ⟨go17, (x7_2 : Int).toNat * 7 + 5, none⟩ = false := hfr17 5
               have hf17_6 : World.frozen? _ ⟨go17, (x7_2 : Int).toNat * 7 + 6, none⟩ = false := hfr17 6
               clear hcl17 hcc17 hfr17 hM17
               replace p17 := eq_true p17
               replace q17 := eq_true q17
               obtain ⟨ce22, hcl22, hM22, hcc22, hfr22⟩ := Kd.R_elem HO_5.out z28 (x7_2 : Int) (of_decide_eq_true (by first | (with_reducible assumption) | assumption)) (by have h_ : (x7_2 : Int) < ((x5_2.length : Int) : Int) := of_decide_eq_true (by first | (with_reducible assumption) | assumption); first | exact h_ | (have e_ := (Kd.R_reads' HO_5.out).1; omega) | simpa using h_)
               obtain rfl := k28_openM hM22
               have HP22 := (Kd.R_seg HO_5.out (x7_2 : Int) (of_decide_eq_true (by first | (with_reducible assumption) | assumption)) (by have h_ : (x7_2 : Int) < ((x5_2.length : Int) : Int) := of_decide_eq_true (by first | (with_reducible assumption) | assumption); first | exact h_ | (have e_ := (Kd.R_reads' HO_5.out).1; omega) | simpa using h_) (seg := [.int .i64 ((rd_T28 x5_2 (ji12)).f0), .int .i64 ((rd_T28 x5_2 (ji12)).f1), .int .i64 ((rd_T28 x5_2 (ji12)).f2), .int .i64 ((rd_T28 x5_2 (ji12)).f3), .int .i64 ((rd_T28 x5_2 (ji12)).f4), .int .i64 ((rd_T28 x5_2 (ji12)).f5), .int .i64 ((rd_T28 x5_2 (ji12)).f6)]) (j := 0) hcl22 hcc22 (show 7 ≤ 7 from by decide) (x' := (⟨(rd_T28 x5_2 (ji12)).f0, (rd_T28 x5_2 (ji12)).f1, (rd_T28 x5_2 (ji12)).f2, (rd_T28 x5_2 (ji12)).f3, (rd_T28 x5_2 (ji12)).f4, (rd_T28 x5_2 (ji12)).f5, (rd_T28 x5_2 (ji12)).f6⟩ : S28)) (k28_mkM _ _ _ (⟨(rd_T28 x5_2 (ji12)).f0, (rd_T28 x5_2 (ji12)).f1, (rd_T28 x5_2 (ji12)).f2, (rd_T28 x5_2 (ji12)).f3, (rd_T28 x5_2 (ji12)).f4, (rd_T28 x5_2 (ji12)).f5, (rd_T28 x5_2 (ji12)).f6⟩ : S28) ) (fun _ hk => hk)).1
               rw [← Ny540.out] at HP22
               have HQ22 := Aside0.mk HP22
               clear hcl22 hcc22 hfr22 hM22 HP22
               have p18 : 0 ≤ ((ji12) : Int) := of_decide_eq_true (by first | (with_reducible assumption) | assumption)
               have q18 : ((ji12) : Int) < ((x5_2.length : Int) : Int) := of_decide_eq_true (by first | (with_reducible assumption) | assumption)
               obtain ⟨ce18, hcl18, hM18, hcc18, hfr18⟩ := Kd.R_elem HQ22.out z28 ((ji12) : Int) p18 q18
               obtain rfl := k28_openM hM18
               have hx18_0 : World.cell? _ ⟨go17, ((ji12) : Int).toNat * 7, none⟩ = some (.int .i64 ((rd_T28 y540 (ji12)).f0)) := hcc18 0 _ rfl
               have hx18_1 : World.cell? _ ⟨go17, ((ji12) : Int).toNat * 7 + 1, none⟩ = some (.int .i64 ((rd_T28 y540 (ji12)).f1)) := hcc18 1 _ rfl
               have hx18_2 : World.cell? _ ⟨go17, ((ji12) : Int).toNat * 7 + 2, none⟩ = some (.int .i64 ((rd_T28 y540 (ji12)).f2)) := hcc18 2 _ rfl
               have hx18_3 : World.cell? _ ⟨go17, ((ji12) : Int).toNat * 7 + 3, none⟩ = some (.int .i64 ((rd_T28 y540 (ji12)).f3)) := hcc18 3 _ rfl
               have hx18_4 : World.cell? _ ⟨go17, ((ji12) : Int).toNat * 7 + 4, none⟩ = some (.int .i64 ((rd_T28 y540 (ji12)).f4)) := hcc18 4 _ rfl
               have hx18_5 : World.cell? _ ⟨go17, ((ji12) : Int).toNat * 7 + 5, none⟩ = some (.int .i64 ((rd_T28 y540 (ji12)).f5)) := hcc18 5 _ rfl
               have hx18_6 : World.cell? _ ⟨go17, ((ji12) : Int).toNat * 7 + 6, none⟩ = some (.int .i64 ((rd_T28 y540 (ji12)).f6)) := hcc18 6 _ rfl
               have hf18_0 : World.frozen? _ ⟨go17, ((ji12) : Int).toNat * 7, none⟩ = false := hfr18 0
               have hf18_1 : World.frozen? _ ⟨go17, ((ji12) : Int).toNat * 7 + 1, none⟩ = false := hfr18 1
               have hf18_2 : World.frozen? _ ⟨go17, ((ji12) : Int).toNat * 7 + 2, none⟩ = false := hfr18 2
               have hf18_3 : World.frozen? _ ⟨go17, ((ji12) : Int).toNat * 7 + 3, none⟩ = false := hfr18 3
               have hf18_4 : World.frozen? _ ⟨go17, ((ji12) : Int).toNat * 7 + 4, none⟩ = false := hfr18 4
               have hf18_5 : World.frozen? _ ⟨go17, ((ji12) : Int).toNat * 7 + 5, none⟩ = false := hfr18 5
               have hf18_6 : World.frozen? _ ⟨go17, ((ji12) : Int).toNat * 7 + 6, none⟩ = false := hfr18 6
               clear hcl18 hcc18 hfr18 hM18
               replace p18 := eq_true p18
               replace q18 := eq_true q18
               obtain ⟨ce23, hcl23, hM23, hcc23, hfr23⟩ := Kd.R_elem HQ22.out z28 ((ji12) : Int) (of_decide_eq_true (by first | (with_reducible assumption) | assumption)) (by have h_ : ((ji12) : Int) < ((x5_2.length : Int) : Int) := of_decide_eq_true (by first | (with_reducible assumption) | assumption); first | exact h_ | (have e_ := (Kd.R_reads' HO_5.out).1; omega) | simpa using h_)
               obtain rfl := k28_openM hM23
               have HP23 := (Kd.R_seg HQ22.out ((ji12) : Int) (of_decide_eq_true (by first | (with_reducible assumption) | assumption)) (by have h_ : ((ji12) : Int) < ((x5_2.length : Int) : Int) := of_decide_eq_true (by first | (with_reducible assumption) | assumption); first | exact h_ | (have e_ := (Kd.R_reads' HO_5.out).1; omega) | simpa using h_) (seg := [.int .i64 ((rd_T28 x5_2 x7_2).f0), .int .i64 ((rd_T28 x5_2 x7_2).f1), .int .i64 ((rd_T28 x5_2 x7_2).f2), .int .i64 ((rd_T28 x5_2 x7_2).f3), .int .i64 ((rd_T28 x5_2 x7_2).f4), .int .i64 ((rd_T28 x5_2 x7_2).f5), .int .i64 ((rd_T28 x5_2 x7_2).f6)]) (j := 0) hcl23 hcc23 (show 7 ≤ 7 from by decide) (x' := (⟨(rd_T28 x5_2 x7_2).f0, (rd_T28 x5_2 x7_2).f1, (rd_T28 x5_2 x7_2).f2, (rd_T28 x5_2 x7_2).f3, (rd_T28 x5_2 x7_2).f4, (rd_T28 x5_2 x7_2).f5, (rd_T28 x5_2 x7_2).f6⟩ : S28)) (k28_mkM _ _ _ (⟨(rd_T28 x5_2 x7_2).f0, (rd_T28 x5_2 x7_2).f1, (rd_T28 x5_2 x7_2).f2, (rd_T28 x5_2 x7_2).f3, (rd_T28 x5_2 x7_2).f4, (rd_T28 x5_2 x7_2).f5, (rd_T28 x5_2 x7_2).f6⟩ : S28) ) (fun _ hk => hk)).1
               rw [← Ny541.out] at HP23
               have HQ23 := Aside0.mk HP23
               clear hcl23 hcc23 hfr23 hM23 HP23
               refine start_ (n := 18) (S := fun w' => w'.cell? ⟨go17, (((ji12)).toNat * 7), none⟩ = some (.int .i64 ((rd_T28 x5_2 (ji12)).f0)) ∧ w'.cell? ⟨go17, (((ji12)).toNat * 7) + 1, none⟩ = some (.int .i64 ((rd_T28 x5_2 (ji12)).f1)) ∧ w'.cell? ⟨go17, (((ji12)).toNat * 7) + 2, none⟩ = some (.int .i64 ((rd_T28 x5_2 (ji12)).f2)) ∧ w'.cell? ⟨go17, (((ji12)).toNat * 7) + 3, none⟩ = some (.int .i64 ((rd_T28 x5_2 (ji12)).f3)) ∧ w'.cell? ⟨go17, (((ji12)).toNat * 7) + 4, none⟩ = some (.int .i64 ((rd_T28 x5_2 (ji12)).f4)) ∧ w'.cell? ⟨go17, (((ji12)).toNat * 7) + 5, none⟩ = some (.int .i64 ((rd_T28 x5_2 (ji12)).f5)) ∧ w'.cell? ⟨go17, (((ji12)).toNat * 7) + 6, none⟩ = some (.int .i64 ((rd_T28 x5_2 (ji12)).f6)) ∧ w'.cell? ⟨go17, ((x7_2).toNat * 7), none⟩ = some (.int .i64 ((rd_T28 x5_2 x7_2).f0)) ∧ w'.cell? ⟨go17, ((x7_2).toNat * 7) + 1, none⟩ = some (.int .i64 ((rd_T28 x5_2 x7_2).f1)) ∧ w'.cell? ⟨go17, ((x7_2).toNat * 7) + 2, none⟩ = some (.int .i64 ((rd_T28 x5_2 x7_2).f2)) ∧ w'.cell? ⟨go17, ((x7_2).toNat * 7) + 3, none⟩ = some (.int .i64 ((rd_T28 x5_2 x7_2).f3)) ∧ w'.cell? ⟨go17, ((x7_2).toNat * 7) + 4, none⟩ = some (.int .i64 ((rd_T28 x5_2 x7_2).f4)) ∧ w'.cell? ⟨go17, ((x7_2).toNat * 7) + 5, none⟩ = some (.int .i64 ((rd_T28 x5_2 x7_2).f5)) ∧ w'.cell? ⟨go17, ((x7_2).toNat * 7) + 6, none⟩ = some (.int .i64 ((rd_T28 x5_2 x7_2).f6))) (ds := [15, 17]) #[false, false, false, false, false, false, false, false, false, false, false, false, false, false, false, false, false, false] (by kernel_rfl) rfl rfl ⟨hx538_0, hx538_1, hx538_2, hx538_3, hx538_4, hx538_5, hx538_6, hx539_0, hx539_1, hx539_2, hx539_3, hx539_4, hx539_5, hx539_6⟩ (fun hHeld => ?_); refine with_tabW skiarearef31_Of.tab10 skiarearef31_Of.bits10 (fun HT_ HW_ => ?_)
               generalize w20.drew = w21 at HO_5 HB GG17 HQ22 HQ23 hf17_0 hf17_1 hf17_2 hf17_3 hf17_4 hf17_5 hf17_6 hf18_0 hf18_1 hf18_2 hf18_3 hf18_4 hf18_5 hf18_6 hx17_0 hx17_1 hx17_2 hx17_3 hx17_4 hx17_5 hx17_6 hx18_0 hx18_1 hx18_2 hx18_3 hx18_4 hx18_5 hx18_6 hx535_0 hx535_1 hx535_2 hx535_3 hx535_4 hx535_5 hx535_6 hx536_0 hx536_1 hx536_2 hx536_3 hx536_4 hx536_5 hx536_6 hx538_0 hx538_1 hx538_2 hx538_3 hx538_4 hx538_5 hx538_6 hx539_0 hx539_1 hx539_2 hx539_3 hx539_4 hx539_5 hx539_6 hHeld ⊢
               refine pure_ (i := 0) (N := some 47) (v := ?_) (a' := ?_) #[true, false, false, false, false, false, false, false, false, false, false, false, false, false, false, false, false, false] rfl rfl (any_of HT_.out (by kernel_rfl)) (fun _ _ _ h => h) (Or.inl ⟨by rfl, ?_⟩) ?_ ?_
               rotate_left
               ·intro w'
                go_simp
                with_reducible rfl
               rotate_left
               ·simp only [Act.put, List.setIfInBounds_toArray, List.set_cons_zero, List.set_cons_succ, i64_w, i32_w]
                rfl
               refine pure_ (i := 1) (N := some 48) (v := ?_) (a' := ?_) #[true, true, false, false, false, false, false, false, false, false, false, false, false, false, false, false, false, false] rfl rfl (any_of HT_.out (by kernel_rfl)) (fun _ _ _ h => h) (Or.inl ⟨by rfl, ?_⟩) ?_ ?_
               rotate_left
               ·intro w'
                go_simp
                with_reducible rfl
               rotate_left
               ·simp only [Act.put, List.setIfInBounds_toArray, List.set_cons_zero, List.set_cons_succ, i64_w, i32_w]
                rfl
               refine pure_ (i := 2) (N := some 49) (v := ?_) (a' := ?_) #[true, true, true, false, false, false, false, false, false, false, false, false, false, false, false, false, false, false] rfl rfl (any_of HT_.out (by kernel_rfl)) (fun _ _ _ h => h) (Or.inl ⟨by rfl, ?_⟩) ?_ ?_
               rotate_left
               ·intro w'
                go_simp
                with_reducible rfl
               rotate_left
               ·simp only [Act.put, List.setIfInBounds_toArray, List.set_cons_zero, List.set_cons_succ, i64_w, i32_w]
                rfl
               refine pure_ (i := 3) (N := some 50) (v := ?_) (a' := ?_) #[true, true, true, true, false, false, false, false, false, false, false, false, false, false, false, false, false, false] rfl rfl (any_of HT_.out (by kernel_rfl)) (fun _ _ _ h => h) (Or.inl ⟨by rfl, ?_⟩) ?_ ?_
               rotate_left
               ·intro w'
                go_simp
                with_reducible rfl
               rotate_left
               ·simp only [Act.put, List.setIfInBounds_toArray, List.set_cons_zero, List.set_cons_succ, i64_w, i32_w]
                rfl
               refine pure_ (i := 4) (N := some 51) (v := ?_) (a' := ?_) #[true, true, true, true, true, false, false, false, false, false, false, false, false, false, false, false, false, false] rfl rfl (any_of HT_.out (by kernel_rfl)) (fun _ _ _ h => h) (Or.inl ⟨by rfl, ?_⟩) ?_ ?_
               rotate_left
               ·intro w'
                go_simp
                with_reducible rfl
               rotate_left
               ·simp only [Act.put, List.setIfInBounds_toArray, List.set_cons_zero, List.set_cons_succ, i64_w, i32_w]
                rfl
               refine pure_ (i := 5) (N := some 52) (v := ?_) (a' := ?_) #[true, true, true, true, true, true, false, false, false, false, false, false, false, false, false, false, false, false] rfl rfl (any_of HT_.out (by kernel_rfl)) (fun _ _ _ h => h) (Or.inl ⟨by rfl, ?_⟩) ?_ ?_
               rotate_left
               ·intro w'
                go_simp
                with_reducible rfl
               rotate_left
               ·simp only [Act.put, List.setIfInBounds_toArray, List.set_cons_zero, List.set_cons_succ, i64_w, i32_w]
                rfl
               refine pure_ (i := 6) (N := some 53) (v := ?_) (a' := ?_) #[true, true, true, true, true, true, true, false, false, false, false, false, false, false, false, false, false, false] rfl rfl (any_of HT_.out (by kernel_rfl)) (fun _ _ _ h => h) (Or.inl ⟨by rfl, ?_⟩) ?_ ?_
               rotate_left
               ·intro w'
                go_simp
                with_reducible rfl
               rotate_left
               ·simp only [Act.put, List.setIfInBounds_toArray, List.set_cons_zero, List.set_cons_succ, i64_w, i32_w]
                rfl
               refine pure_ (i := 7) (N := some 54) (v := ?_) (a' := ?_) #[true, true, true, true, true, true, true, true, false, false, false, false, false, false, false, false, false, false] rfl rfl (any_of HT_.out (by kernel_rfl)) (fun _ _ _ h => h) (Or.inl ⟨by rfl, ?_⟩) ?_ ?_
               rotate_left
               ·intro w'
                go_simp
                with_reducible rfl
               rotate_left
               ·simp only [Act.put, List.setIfInBounds_toArray, List.set_cons_zero, List.set_cons_succ, i64_w, i32_w]
                rfl
               refine pure_ (i := 8) (N := some 55) (v := ?_) (a' := ?_) #[true, true, true, true, true, true, true, true, true, false, false, false, false, false, false, false, false, false] rfl rfl (any_of HT_.out (by kernel_rfl)) (fun _ _ _ h => h) (Or.inl ⟨by rfl, ?_⟩) ?_ ?_
               rotate_left
               ·intro w'
                go_simp
                with_reducible rfl
               rotate_left
               ·simp only [Act.put, List.setIfInBounds_toArray, List.set_cons_zero, List.set_cons_succ, i64_w, i32_w]
                rfl
               refine pure_ (i := 10) (N := some 57) (v := ?_) (a' := ?_) #[true, true, true, true, true, true, true, true, true, false, true, false, false, false, false, false, false, false] rfl rfl (any_of HT_.out (by kernel_rfl)) (fun _ _ _ h => h) (Or.inl ⟨by rfl, ?_⟩) ?_ ?_
               rotate_left
               ·intro w'
                go_simp
                with_reducible rfl
               rotate_left
               ·simp only [Act.put, List.setIfInBounds_toArray, List.set_cons_zero, List.set_cons_succ, i64_w, i32_w]
                rfl
               refine pure_ (i := 11) (N := some 58) (v := ?_) (a' := ?_) #[true, true, true, true, true, true, true, true, true, false, true, true, false, false, false, false, false, false] rfl rfl (any_of HT_.out (by kernel_rfl)) (fun _ _ _ h => h) (Or.inl ⟨by rfl, ?_⟩) ?_ ?_
               rotate_left
               ·intro w'
                go_simp
                with_reducible rfl
               rotate_left
               ·simp only [Act.put, List.setIfInBounds_toArray, List.set_cons_zero, List.set_cons_succ, i64_w, i32_w]
                rfl
               refine pure_ (i := 12) (N := some 59) (v := ?_) (a' := ?_) #[true, true, true, true, true, true, true, true, true, false, true, true, true, false, false, false, false, false] rfl rfl (any_of HT_.out (by kernel_rfl)) (fun _ _ _ h => h) (Or.inl ⟨by rfl, ?_⟩) ?_ ?_
               rotate_left
               ·intro w'
                go_simp
                with_reducible rfl
               rotate_left
               ·simp only [Act.put, List.setIfInBounds_toArray, List.set_cons_zero, List.set_cons_succ, i64_w, i32_w]
                rfl
               refine take_ (i := 9) (N := some 56) (v := ?_) (a' := ?_) #[true, true, true, true, true, true, true, true, true, true, true, true, true, false, false, false, false, false] rfl rfl (take_ofW HT_.out HW_.out (by kernel_rfl)) (fun _ _ _ h => h) (Or.inl ⟨by rfl, ?_⟩) hHeld ?_ ?_
               rotate_left
               ·rintro w' ⟨s0, s1, s2, s3, s4, s5, s6, s7, s8, s9, s10, s11, s12, s13⟩
                go_simp
                with_reducible rfl
               rotate_left
               ·simp only [Act.put, List.setIfInBounds_toArray, List.set_cons_zero, List.set_cons_succ, i64_w, i32_w]
                rfl
               refine take_ (i := 13) (N := some 60) (v := ?_) (a' := ?_) #[true, true, true, true, true, true, true, true, true, true, true, true, true, true, false, false, false, false] rfl rfl (take_ofW HT_.out HW_.out (by kernel_rfl)) (fun _ _ _ h => h) (Or.inl ⟨by rfl, ?_⟩) hHeld ?_ ?_
               rotate_left
               ·rintro w' ⟨s0, s1, s2, s3, s4, s5, s6, s7, s8, s9, s10, s11, s12, s13⟩
                go_simp
                with_reducible rfl
               rotate_left
               ·simp only [Act.put, List.setIfInBounds_toArray, List.set_cons_zero, List.set_cons_succ, i64_w, i32_w]
                rfl
               refine pure_ (i := 14) (N := some 61) (v := ?_) (a' := ?_) #[true, true, true, true, true, true, true, true, true, true, true, true, true, true, true, false, false, false] rfl rfl (any_of HT_.out (by kernel_rfl)) (fun _ _ _ h => h) (Or.inl ⟨by rfl, ?_⟩) ?_ ?_
               rotate_left
               ·intro w'
                go_simp
                with_reducible rfl
               rotate_left
               ·simp only [Act.put, List.setIfInBounds_toArray, List.set_cons_zero, List.set_cons_succ, i64_w, i32_w]
                rfl
               refine last_ (i := 15) (N := none) #[true, true, true, true, true, true, true, true, true, true, true, true, true, true, true, true, false, false] rfl rfl (one_of HT_.out (by kernel_rfl)) (by decide) (fun K hK => ?_)
               refine skip_ (w1 := ?_) (by rfl) rfl ?_ ?_
               rotate_left
               ·go_simp
                rfl
               refine hK.out _ _ ?_
               clear hK K
               refine pure_ (i := 16) (N := some 62) (v := ?_) (a' := ?_) #[true, true, true, true, true, true, true, true, true, true, true, true, true, true, true, true, true, false] rfl rfl (any_of HT_.out (by kernel_rfl)) (fun _ _ _ h => h) (Or.inl ⟨by rfl, ?_⟩) ?_ ?_
               rotate_left
               ·intro w'
                go_simp
                with_reducible rfl
               rotate_left
               ·simp only [Act.put, List.setIfInBounds_toArray, List.set_cons_zero, List.set_cons_succ, i64_w, i32_w]
                rfl
               have ne0_ : ((ji12).toNat * 7 = (x7_2).toNat * 7) = False := eq_false (by have a_ := of_eq_true p18; have b_ := of_eq_true p17; have e_ := hji12; unfold wrap64 at e_; omega)
               have ne1_ : ((ji12).toNat = (x7_2).toNat) = False := eq_false (by have a_ := of_eq_true p18; have b_ := of_eq_true p17; have e_ := hji12; unfold wrap64 at e_; omega)
               have ne2_ : ((x7_2).toNat * 7 = (ji12).toNat * 7) = False := eq_false (by have a_ := of_eq_true p18; have b_ := of_eq_true p17; have e_ := hji12; unfold wrap64 at e_; omega)
               have ne3_ : ((x7_2).toNat = (ji12).toNat) = False := eq_false (by have a_ := of_eq_true p18; have b_ := of_eq_true p17; have e_ := hji12; unfold wrap64 at e_; omega)
               obtain ⟨cg_, hcg_, hMg_, hccg_, hfg_⟩ := Kd.R_elem HO_5.out z28 ((ji12) : Int) (of_eq_true p18) (of_eq_true q18)
               have hg0_ : World.frozen? _ ⟨go17, ((ji12) : Int).toNat * 7, none⟩ = false := hfg_ 0
               have hg1_ : World.frozen? _ ⟨go17, ((ji12) : Int).toNat * 7 + 1, none⟩ = false := hfg_ 1
               have hg2_ : World.frozen? _ ⟨go17, ((ji12) : Int).toNat * 7 + 2, none⟩ = false := hfg_ 2
               have hg3_ : World.frozen? _ ⟨go17, ((ji12) : Int).toNat * 7 + 3, none⟩ = false := hfg_ 3
               have hg4_ : World.frozen? _ ⟨go17, ((ji12) : Int).toNat * 7 + 4, none⟩ = false := hfg_ 4
               have hg5_ : World.frozen? _ ⟨go17, ((ji12) : Int).toNat * 7 + 5, none⟩ = false := hfg_ 5
               have hg6_ : World.frozen? _ ⟨go17, ((ji12) : Int).toNat * 7 + 6, none⟩ = false := hfg_ 6
               clear hcg_ hMg_ hccg_ hfg_
               refine last_ (i := 17) (N := none) #[true, true, true, true, true, true, true, true, true, true, true, true, true, true, true, true, true, true] rfl rfl (one_of HT_.out (by kernel_rfl)) (by decide) (fun K hK => ?_)
               with_reducible refine skip_ (w1 := ?_) ?_ ?_ ?_ ?_
               rotate_left
               ·rfl
               ·rfl
               ·go_simp
                rfl
               refine hK.out _ _ ?_
               clear hK K
               refine done_ (done_of HT_.out (by kernel_rfl)) ?_
               try go_wp2
               (try simp only [← hl5_2])
               go_roundg k2
               case measure => have := HK1.out; have := HK2.out; omega
               case rel => exact ⟨(y541), (ji12), (by first | rfl | (simp; done) | (simp only [← hji12] <;> (first | rfl | simp)) | (simp [*]; done)), H', ⟨by have := HK1.out; have := HK2.out; omega⟩, ⟨by (try simp only [hl5_2]); (with_reducible repeat (first | apply Kd.R_alloc | apply Kd.R_drewN | apply Kd.R_drew)); exact HQ23.out⟩, ⟨by repeat (first | (with_reducible first | exact HB.out | apply below_alloc | apply pw_below_drewN | apply below_drew1 | refine below_set ?_ GB17.out | refine below_set ?_ GB17.out | refine below_set ?_ GB17.out | refine below_set ?_ GB17.out | refine below_set ?_ GB17.out | refine below_set ?_ GB17.out | refine below_set ?_ GB17.out | refine below_set ?_ GB17.out | refine below_set ?_ GB17.out | refine below_set ?_ GB17.out | refine below_set ?_ GB17.out | refine below_set ?_ GB17.out | refine below_set ?_ GB17.out | refine below_set ?_ GB17.out) | exact HB.out)⟩⟩
              ·replace c16 := Bool.eq_false_iff.mpr c16
               subst c16
               have H1 : (skiarearef31_Of.l0 k2 l0 a1 x5_2 (wrap64 (x6_1 + 1))) = some r := by rw [if_neg (show ¬ (false = true) by decide)] at H; exact H
               clear H
               have H := H1
               clear H1
               have H' := Aside0.mk H
               clear H
               try go_wp2
               have n0_ := Aside0.mk (Kd.R_drew HO_5.out)
               have n1_ := Aside0.mk (below_drew1 HB.out)
               clear HO_5
               clear HB
               have HO_5 := n0_
               have HB := n1_
               clear n0_ n1_
               have p535 : 0 ≤ (x7_2 : Int) := of_decide_eq_true (by first | (with_reducible assumption) | assumption)
               have q535 : x7_2 < (x5_2.length : Int) := of_decide_eq_true (by first | (with_reducible assumption) | assumption)
               obtain ⟨ad535, e535, hx535_0, hx535_1, hx535_2, hx535_3, hx535_4, hx535_5, hx535_6⟩ := at_T28 (Kd.R_reads' HO_5.out).2.2 x7_2 p535 q535
               cases e535
               replace p535 := eq_true p535
               replace q535 := eq_true q535
               have p536 : 0 ≤ ((ji12) : Int) := of_decide_eq_true (by first | (with_reducible assumption) | assumption)
               have q536 : (ji12) < (x5_2.length : Int) := of_decide_eq_true (by first | (with_reducible assumption) | assumption)
               obtain ⟨ad536, e536, hx536_0, hx536_1, hx536_2, hx536_3, hx536_4, hx536_5, hx536_6⟩ := at_T28 (Kd.R_reads' HO_5.out).2.2 (ji12) p536 q536
               obtain rfl : ad535 = ad536 := (by injection e536)
               replace p536 := eq_true p536
               replace q536 := eq_true q536
               refine start_ (n := 14) (S := fun w' => w'.cell? (ad535.add ((x7_2).toNat * 7)) = some (.int .i64 ((rd_T28 x5_2 x7_2).f0)) ∧ w'.cell? ⟨(ad535.add ((x7_2).toNat * 7)).block, (ad535.add ((x7_2).toNat * 7)).off + 1, none⟩ = some (.int .i64 ((rd_T28 x5_2 x7_2).f1)) ∧ w'.cell? ⟨(ad535.add ((x7_2).toNat * 7)).block, (ad535.add ((x7_2).toNat * 7)).off + 2, none⟩ = some (.int .i64 ((rd_T28 x5_2 x7_2).f2)) ∧ w'.cell? ⟨(ad535.add ((x7_2).toNat * 7)).block, (ad535.add ((x7_2).toNat * 7)).off + 3, none⟩ = some (.int .i64 ((rd_T28 x5_2 x7_2).f3)) ∧ w'.cell? ⟨(ad535.add ((x7_2).toNat * 7)).block, (ad535.add ((x7_2).toNat * 7)).off + 4, none⟩ = some (.int .i64 ((rd_T28 x5_2 x7_2).f4)) ∧ w'.cell? ⟨(ad535.add ((x7_2).toNat * 7)).block, (ad535.add ((x7_2).toNat * 7)).off + 5, none⟩ = some (.int .i64 ((rd_T28 x5_2 x7_2).f5)) ∧ w'.cell? ⟨(ad535.add ((x7_2).toNat * 7)).block, (ad535.add ((x7_2).toNat * 7)).off + 6, none⟩ = some (.int .i64 ((rd_T28 x5_2 x7_2).f6)) ∧ w'.cell? (ad535.add (((ji12)).toNat * 7)) = some (.int .i64 ((rd_T28 x5_2 (ji12)).f0)) ∧ w'.cell? ⟨(ad535.add (((ji12)).toNat * 7)).block, (ad535.add (((ji12)).toNat * 7)).off + 1, none⟩ = some (.int .i64 ((rd_T28 x5_2 (ji12)).f1)) ∧ w'.cell? ⟨(ad535.add (((ji12)).toNat * 7)).block, (ad535.add (((ji12)).toNat * 7)).off + 2, none⟩ = some (.int .i64 ((rd_T28 x5_2 (ji12)).f2)) ∧ w'.cell? ⟨(ad535.add (((ji12)).toNat * 7)).block, (ad535.add (((ji12)).toNat * 7)).off + 3, none⟩ = some (.int .i64 ((rd_T28 x5_2 (ji12)).f3)) ∧ w'.cell? ⟨(ad535.add (((ji12)).toNat * 7)).block, (ad535.add (((ji12)).toNat * 7)).off + 4, none⟩ = some (.int .i64 ((rd_T28 x5_2 (ji12)).f4)) ∧ w'.cell? ⟨(ad535.add (((ji12)).toNat * 7)).block, (ad535.add (((ji12)).toNat * 7)).off + 5, none⟩ = some (.int .i64 ((rd_T28 x5_2 (ji12)).f5)) ∧ w'.cell? ⟨(ad535.add (((ji12)).toNat * 7)).block, (ad535.add (((ji12)).toNat * 7)).off + 6, none⟩ = some (.int .i64 ((rd_T28 x5_2 (ji12)).f6))) (ds := []) #[false, false, false, false, false, false, false, false, false, false, false, false, false, false] (by kernel_rfl) rfl rfl ⟨hx535_0, hx535_1, hx535_2, hx535_3, hx535_4, hx535_5, hx535_6, hx536_0, hx536_1, hx536_2, hx536_3, hx536_4, hx536_5, hx536_6⟩ (fun hHeld => ?_); refine with_tabW skiarearef31_Of.tab8 skiarearef31_Of.bits8 (fun HT_ HW_ => ?_)
               generalize wr.drew = w24 at HO_5 HB hx535_0 hx535_1 hx535_2 hx535_3 hx535_4 hx535_5 hx535_6 hx536_0 hx536_1 hx536_2 hx536_3 hx536_4 hx536_5 hx536_6 hHeld ⊢
               refine pure_ (i := 0) (N := some 31) (v := ?_) (a' := ?_) #[true, false, false, false, false, false, false, false, false, false, false, false, false, false] rfl rfl (any_of HT_.out (by kernel_rfl)) (fun _ _ _ h => h) (Or.inl ⟨by rfl, ?_⟩) ?_ ?_
               rotate_left
               ·intro w'
                go_simp
                with_reducible rfl
               rotate_left
               ·simp only [Act.put, List.setIfInBounds_toArray, List.set_cons_zero, List.set_cons_succ, i64_w, i32_w]
                rfl
               refine pure_ (i := 1) (N := some 32) (v := ?_) (a' := ?_) #[true, true, false, false, false, false, false, false, false, false, false, false, false, false] rfl rfl (any_of HT_.out (by kernel_rfl)) (fun _ _ _ h => h) (Or.inl ⟨by rfl, ?_⟩) ?_ ?_
               rotate_left
               ·intro w'
                go_simp
                with_reducible rfl
               rotate_left
               ·simp only [Act.put, List.setIfInBounds_toArray, List.set_cons_zero, List.set_cons_succ, i64_w, i32_w]
                rfl
               refine pure_ (i := 2) (N := some 33) (v := ?_) (a' := ?_) #[true, true, true, false, false, false, false, false, false, false, false, false, false, false] rfl rfl (any_of HT_.out (by kernel_rfl)) (fun _ _ _ h => h) (Or.inl ⟨by rfl, ?_⟩) ?_ ?_
               rotate_left
               ·intro w'
                go_simp
                with_reducible rfl
               rotate_left
               ·simp only [Act.put, List.setIfInBounds_toArray, List.set_cons_zero, List.set_cons_succ, i64_w, i32_w]
                rfl
               refine pure_ (i := 3) (N := some 34) (v := ?_) (a' := ?_) #[true, true, true, true, false, false, false, false, false, false, false, false, false, false] rfl rfl (any_of HT_.out (by kernel_rfl)) (fun _ _ _ h => h) (Or.inl ⟨by rfl, ?_⟩) ?_ ?_
               rotate_left
               ·intro w'
                go_simp
                with_reducible rfl
               rotate_left
               ·simp only [Act.put, List.setIfInBounds_toArray, List.set_cons_zero, List.set_cons_succ, i64_w, i32_w]
                rfl
               refine pure_ (i := 4) (N := some 35) (v := ?_) (a' := ?_) #[true, true, true, true, true, false, false, false, false, false, false, false, false, false] rfl rfl (any_of HT_.out (by kernel_rfl)) (fun _ _ _ h => h) (Or.inl ⟨by rfl, ?_⟩) ?_ ?_
               rotate_left
               ·intro w'
                go_simp
                with_reducible rfl
               rotate_left
               ·simp only [Act.put, List.setIfInBounds_toArray, List.set_cons_zero, List.set_cons_succ, i64_w, i32_w]
                rfl
               refine pure_ (i := 5) (N := some 36) (v := ?_) (a' := ?_) #[true, true, true, true, true, true, false, false, false, false, false, false, false, false] rfl rfl (any_of HT_.out (by kernel_rfl)) (fun _ _ _ h => h) (Or.inl ⟨by rfl, ?_⟩) ?_ ?_
               rotate_left
               ·intro w'
                go_simp
                with_reducible rfl
               rotate_left
               ·simp only [Act.put, List.setIfInBounds_toArray, List.set_cons_zero, List.set_cons_succ, i64_w, i32_w]
                rfl
               refine pure_ (i := 7) (N := some 38) (v := ?_) (a' := ?_) #[true, true, true, true, true, true, false, true, false, false, false, false, false, false] rfl rfl (any_of HT_.out (by kernel_rfl)) (fun _ _ _ h => h) (Or.inl ⟨by rfl, ?_⟩) ?_ ?_
               rotate_left
               ·intro w'
                go_simp
                with_reducible rfl
               rotate_left
               ·simp only [Act.put, List.setIfInBounds_toArray, List.set_cons_zero, List.set_cons_succ, i64_w, i32_w]
                rfl
               refine pure_ (i := 8) (N := some 39) (v := ?_) (a' := ?_) #[true, true, true, true, true, true, false, true, true, false, false, false, false, false] rfl rfl (any_of HT_.out (by kernel_rfl)) (fun _ _ _ h => h) (Or.inl ⟨by rfl, ?_⟩) ?_ ?_
               rotate_left
               ·intro w'
                go_simp
                with_reducible rfl
               rotate_left
               ·simp only [Act.put, List.setIfInBounds_toArray, List.set_cons_zero, List.set_cons_succ, i64_w, i32_w]
                rfl
               refine pure_ (i := 9) (N := some 40) (v := ?_) (a' := ?_) #[true, true, true, true, true, true, false, true, true, true, false, false, false, false] rfl rfl (any_of HT_.out (by kernel_rfl)) (fun _ _ _ h => h) (Or.inl ⟨by rfl, ?_⟩) ?_ ?_
               rotate_left
               ·intro w'
                go_simp
                with_reducible rfl
               rotate_left
               ·simp only [Act.put, List.setIfInBounds_toArray, List.set_cons_zero, List.set_cons_succ, i64_w, i32_w]
                rfl
               refine pure_ (i := 10) (N := some 41) (v := ?_) (a' := ?_) #[true, true, true, true, true, true, false, true, true, true, true, false, false, false] rfl rfl (any_of HT_.out (by kernel_rfl)) (fun _ _ _ h => h) (Or.inl ⟨by rfl, ?_⟩) ?_ ?_
               rotate_left
               ·intro w'
                go_simp
                with_reducible rfl
               rotate_left
               ·simp only [Act.put, List.setIfInBounds_toArray, List.set_cons_zero, List.set_cons_succ, i64_w, i32_w]
                rfl
               refine take_ (i := 6) (N := some 37) (v := ?_) (a' := ?_) #[true, true, true, true, true, true, true, true, true, true, true, false, false, false] rfl rfl (take_ofW HT_.out HW_.out (by kernel_rfl)) (fun _ _ _ h => h) (Or.inl ⟨by rfl, ?_⟩) hHeld ?_ ?_
               rotate_left
               ·rintro w' ⟨s0, s1, s2, s3, s4, s5, s6, s7, s8, s9, s10, s11, s12, s13⟩
                go_simp
                with_reducible rfl
               rotate_left
               ·simp only [Act.put, List.setIfInBounds_toArray, List.set_cons_zero, List.set_cons_succ, i64_w, i32_w]
                rfl
               refine take_ (i := 11) (N := some 42) (v := ?_) (a' := ?_) #[true, true, true, true, true, true, true, true, true, true, true, true, false, false] rfl rfl (take_ofW HT_.out HW_.out (by kernel_rfl)) (fun _ _ _ h => h) (Or.inl ⟨by rfl, ?_⟩) hHeld ?_ ?_
               rotate_left
               ·rintro w' ⟨s0, s1, s2, s3, s4, s5, s6, s7, s8, s9, s10, s11, s12, s13⟩
                go_simp
                with_reducible rfl
               rotate_left
               ·simp only [Act.put, List.setIfInBounds_toArray, List.set_cons_zero, List.set_cons_succ, i64_w, i32_w]
                rfl
               refine one_ (i := 12) (N := some 43) #[true, true, true, true, true, true, true, true, true, true, true, true, true, false] rfl rfl (one_of HT_.out (by kernel_rfl)) (by decide) (fun K hK => ?_)
               refine goes_ Try.func40 (by kernel_rfl) rfl #[.agg #[.int .i64 ((rd_T28 x5_2 x7_2).f0), .int .i64 ((rd_T28 x5_2 x7_2).f1), .int .i64 ((rd_T28 x5_2 x7_2).f2), .int .i64 ((rd_T28 x5_2 x7_2).f3), .int .i64 ((rd_T28 x5_2 x7_2).f4), .int .i64 ((rd_T28 x5_2 x7_2).f5), .int .i64 ((rd_T28 x5_2 x7_2).f6)], .agg #[.int .i64 ((rd_T28 x5_2 (ji12)).f0), .int .i64 ((rd_T28 x5_2 (ji12)).f1), .int .i64 ((rd_T28 x5_2 (ji12)).f2), .int .i64 ((rd_T28 x5_2 (ji12)).f3), .int .i64 ((rd_T28 x5_2 (ji12)).f4), .int .i64 ((rd_T28 x5_2 (ji12)).f5), .int .i64 ((rd_T28 x5_2 (ji12)).f6)]] (by rfl) rfl rfl (by (try simp only [List.map_toArray, List.map_cons, List.map_nil]); first | done | (simp only [hji12]; rfl) | rfl | (simp only [List.length_drop, List.length_take]; rfl)) ?_
               with_reducible refine (skiarearef31_earlier.calls ((rd_T28 x5_2 x7_2).f0) ((rd_T28 x5_2 x7_2).f1) ((rd_T28 x5_2 x7_2).f2) ((rd_T28 x5_2 x7_2).f3) ((rd_T28 x5_2 x7_2).f4) ((rd_T28 x5_2 x7_2).f5) ((rd_T28 x5_2 x7_2).f6) ((rd_T28 x5_2 (ji12)).f0) ((rd_T28 x5_2 (ji12)).f1) ((rd_T28 x5_2 (ji12)).f2) ((rd_T28 x5_2 (ji12)).f3) ((rd_T28 x5_2 (ji12)).f4) ((rd_T28 x5_2 (ji12)).f5) ((rd_T28 x5_2 (ji12)).f6) false _ A15.out).mono ?_
               rintro e w25 ⟨rfl, hb⟩
               have HS0_ := (hb.cell (World.block_lt_of_cell? _ _ (hHeld.1))).trans (hHeld.1)
               have HS1_ := (hb.cell (World.block_lt_of_cell? _ _ (hHeld.2.1))).trans (hHeld.2.1)
               have HS2_ := (hb.cell (World.block_lt_of_cell? _ _ (hHeld.2.2.1))).trans (hHeld.2.2.1)
               have HS3_ := (hb.cell (World.block_lt_of_cell? _ _ (hHeld.2.2.2.1))).trans (hHeld.2.2.2.1)
               have HS4_ := (hb.cell (World.block_lt_of_cell? _ _ (hHeld.2.2.2.2.1))).trans (hHeld.2.2.2.2.1)
               have HS5_ := (hb.cell (World.block_lt_of_cell? _ _ (hHeld.2.2.2.2.2.1))).trans (hHeld.2.2.2.2.2.1)
               have HS6_ := (hb.cell (World.block_lt_of_cell? _ _ (hHeld.2.2.2.2.2.2.1))).trans (hHeld.2.2.2.2.2.2.1)
               have HS7_ := (hb.cell (World.block_lt_of_cell? _ _ (hHeld.2.2.2.2.2.2.2.1))).trans (hHeld.2.2.2.2.2.2.2.1)
               have HS8_ := (hb.cell (World.block_lt_of_cell? _ _ (hHeld.2.2.2.2.2.2.2.2.1))).trans (hHeld.2.2.2.2.2.2.2.2.1)
               have HS9_ := (hb.cell (World.block_lt_of_cell? _ _ (hHeld.2.2.2.2.2.2.2.2.2.1))).trans (hHeld.2.2.2.2.2.2.2.2.2.1)
               have HS10_ := (hb.cell (World.block_lt_of_cell? _ _ (hHeld.2.2.2.2.2.2.2.2.2.2.1))).trans (hHeld.2.2.2.2.2.2.2.2.2.2.1)
               have HS11_ := (hb.cell (World.block_lt_of_cell? _ _ (hHeld.2.2.2.2.2.2.2.2.2.2.2.1))).trans (hHeld.2.2.2.2.2.2.2.2.2.2.2.1)
               have HS12_ := (hb.cell (World.block_lt_of_cell? _ _ (hHeld.2.2.2.2.2.2.2.2.2.2.2.2.1))).trans (hHeld.2.2.2.2.2.2.2.2.2.2.2.2.1)
               have HS13_ := (hb.cell (World.block_lt_of_cell? _ _ (hHeld.2.2.2.2.2.2.2.2.2.2.2.2.2))).trans (hHeld.2.2.2.2.2.2.2.2.2.2.2.2.2)
               refine ⟨_, rfl, ?_⟩
               have n0_ := Aside0.mk (Kd.R_below (by (with_reducible repeat (first | apply Kd.R_alloc | apply Kd.R_drewN | apply Kd.R_drew)); exact HO_5.out) hb)
               have n1_ := Aside0.mk (below_step (by repeat (first | (with_reducible first | exact HB.out | apply below_alloc | apply pw_below_drewN | apply below_drew1) | exact HB.out)) hb)
               clear HO_5
               clear HB
               have HO_5 := n0_
               have HB := n1_
               clear n0_ n1_
               (try clear hb)
               (try clear hb2)
               (try clear hk)
               (try clear hi)
               refine hK.out _ _ ⟨HS0_, HS1_, HS2_, HS3_, HS4_, HS5_, HS6_, HS7_, HS8_, HS9_, HS10_, HS11_, HS12_, HS13_⟩ (fun hHeld => ?_)
               clear hK K
               refine norm_ (a' := ?_) ?_ ?_
               rotate_left
               ·show Act.put _ (some 43) _ = _
                simp only [Act.put, List.setIfInBounds_toArray, List.set_cons_zero, List.set_cons_succ, i64_w, i32_w]
                rfl
               refine pure_ (i := 13) (N := some 44) (v := ?_) (a' := ?_) #[true, true, true, true, true, true, true, true, true, true, true, true, true, true] rfl rfl (any_of HT_.out (by kernel_rfl)) (fun _ _ _ h => h) (Or.inl ⟨by rfl, ?_⟩) ?_ ?_
               rotate_left
               ·intro w'
                go_simp
                with_reducible rfl
               rotate_left
               ·simp only [Act.put, List.setIfInBounds_toArray, List.set_cons_zero, List.set_cons_succ, i64_w, i32_w]
                rfl
               refine done_ (done_of HT_.out (by kernel_rfl)) ?_
               try go_wp2
               (try simp only [← hl5_2])
               go_roundg k2
               case measure => have := HK1.out; have := HK2.out; omega
               case rel => exact ⟨(x5_2), (wrap64 (x6_1 + 1)), (by first | rfl | (simp; done) | (simp [*]; done)), H', ⟨by have := HK1.out; have := HK2.out; omega⟩, ⟨by (try simp only [hl5_2]); (with_reducible repeat (first | apply Kd.R_alloc | apply Kd.R_drewN | apply Kd.R_drew)); exact HO_5.out⟩, ⟨by repeat (first | (with_reducible first | exact HB.out | apply below_alloc | apply pw_below_drewN | apply below_drew1) | exact HB.out)⟩⟩
             ·rw [if_neg c14] at H
              exact absurd H (by simp)
            ·rw [if_neg c13] at H
             exact absurd H (by simp)
           ·rw [if_neg c11] at H
            exact absurd H (by simp)
          ·rw [if_neg c10] at H
           exact absurd H (by simp)
         ·rw [if_neg c9] at H
          have c9b0 : decide (0 < x7_2) = false := decide_eq_false c9
          clear c9
          have H' := Aside0.mk H
          clear H
          try go_wp2
          have n0_ := Aside0.mk (Kd.R_drew HO_5.out)
          have n1_ := Aside0.mk (below_drew1 HB.out)
          clear HO_5
          clear HB
          have HO_5 := n0_
          have HB := n1_
          clear n0_ n1_
          refine start_ (n := 14) (S := fun w' => True) (ds := []) #[false, false, false, false, false, false, false, false, false, false, false, false, false, false] (by kernel_rfl) rfl rfl trivial (fun hHeld => ?_); refine with_tabW skiarearef31_Of.tab8 skiarearef31_Of.bits8 (fun HT_ HW_ => ?_)
          generalize wr.drew = w26 at HO_5 HB hHeld ⊢
          refine pure_ (i := 0) (N := some 31) (v := ?_) (a' := ?_) #[true, false, false, false, false, false, false, false, false, false, false, false, false, false] rfl rfl (any_of HT_.out (by kernel_rfl)) (fun _ _ _ h => h) (Or.inl ⟨by rfl, ?_⟩) ?_ ?_
          rotate_left
          ·intro w'
           go_simp
           with_reducible rfl
          rotate_left
          ·simp only [Act.put, List.setIfInBounds_toArray, List.set_cons_zero, List.set_cons_succ, i64_w, i32_w]
           rfl
          refine pure_ (i := 1) (N := some 32) (v := ?_) (a' := ?_) #[true, true, false, false, false, false, false, false, false, false, false, false, false, false] rfl rfl (any_of HT_.out (by kernel_rfl)) (fun _ _ _ h => h) (Or.inl ⟨by rfl, ?_⟩) ?_ ?_
          rotate_left
          ·intro w'
           go_simp
           with_reducible rfl
          rotate_left
          ·simp only [Act.put, List.setIfInBounds_toArray, List.set_cons_zero, List.set_cons_succ, i64_w, i32_w]
           rfl
          refine pure_ (i := 2) (N := some 33) (v := ?_) (a' := ?_) #[true, true, true, false, false, false, false, false, false, false, false, false, false, false] rfl rfl (any_of HT_.out (by kernel_rfl)) (fun _ _ _ h => h) (Or.inl ⟨by rfl, ?_⟩) ?_ ?_
          rotate_left
          ·intro w'
           go_simp
           with_reducible rfl
          rotate_left
          ·simp only [Act.put, List.setIfInBounds_toArray, List.set_cons_zero, List.set_cons_succ, i64_w, i32_w]
           rfl
          refine pure_ (i := 3) (N := some 34) (v := undef) (a' := ?_) #[true, true, true, true, false, false, false, false, false, false, false, false, false, false] rfl rfl (any_of HT_.out (by kernel_rfl)) (fun _ _ _ h => h) (Or.inr ⟨by rfl, rfl⟩) ?_ ?_
          rotate_left
          ·simp only [Act.put, List.setIfInBounds_toArray, List.set_cons_zero, List.set_cons_succ, i64_w, i32_w]
           rfl
          refine pure_ (i := 4) (N := some 35) (v := undef) (a' := ?_) #[true, true, true, true, true, false, false, false, false, false, false, false, false, false] rfl rfl (any_of HT_.out (by kernel_rfl)) (fun _ _ _ h => h) (Or.inr ⟨by rfl, rfl⟩) ?_ ?_
          rotate_left
          ·simp only [Act.put, List.setIfInBounds_toArray, List.set_cons_zero, List.set_cons_succ, i64_w, i32_w]
           rfl
          refine pure_ (i := 5) (N := some 36) (v := undef) (a' := ?_) #[true, true, true, true, true, true, false, false, false, false, false, false, false, false] rfl rfl (any_of HT_.out (by kernel_rfl)) (fun _ _ _ h => h) (Or.inr ⟨by rfl, rfl⟩) ?_ ?_
          rotate_left
          ·simp only [Act.put, List.setIfInBounds_toArray, List.set_cons_zero, List.set_cons_succ, i64_w, i32_w]
           rfl
          refine pure_ (i := 6) (N := some 37) (v := undef) (a' := ?_) #[true, true, true, true, true, true, true, false, false, false, false, false, false, false] rfl rfl (any_of HT_.out (by kernel_rfl)) (fun _ _ _ h => h) (Or.inr ⟨by rfl, rfl⟩) ?_ ?_
          rotate_left
          ·simp only [Act.put, List.setIfInBounds_toArray, List.set_cons_zero, List.set_cons_succ, i64_w, i32_w]
           rfl
          refine pure_ (i := 7) (N := some 38) (v := undef) (a' := ?_) #[true, true, true, true, true, true, true, true, false, false, false, false, false, false] rfl rfl (any_of HT_.out (by kernel_rfl)) (fun _ _ _ h => h) (Or.inr ⟨by rfl, rfl⟩) ?_ ?_
          rotate_left
          ·simp only [Act.put, List.setIfInBounds_toArray, List.set_cons_zero, List.set_cons_succ, i64_w, i32_w]
           rfl
          refine pure_ (i := 8) (N := some 39) (v := undef) (a' := ?_) #[true, true, true, true, true, true, true, true, true, false, false, false, false, false] rfl rfl (any_of HT_.out (by kernel_rfl)) (fun _ _ _ h => h) (Or.inr ⟨by rfl, rfl⟩) ?_ ?_
          rotate_left
          ·simp only [Act.put, List.setIfInBounds_toArray, List.set_cons_zero, List.set_cons_succ, i64_w, i32_w]
           rfl
          refine pure_ (i := 9) (N := some 40) (v := undef) (a' := ?_) #[true, true, true, true, true, true, true, true, true, true, false, false, false, false] rfl rfl (any_of HT_.out (by kernel_rfl)) (fun _ _ _ h => h) (Or.inr ⟨by rfl, rfl⟩) ?_ ?_
          rotate_left
          ·simp only [Act.put, List.setIfInBounds_toArray, List.set_cons_zero, List.set_cons_succ, i64_w, i32_w]
           rfl
          refine pure_ (i := 10) (N := some 41) (v := undef) (a' := ?_) #[true, true, true, true, true, true, true, true, true, true, true, false, false, false] rfl rfl (any_of HT_.out (by kernel_rfl)) (fun _ _ _ h => h) (Or.inr ⟨by rfl, rfl⟩) ?_ ?_
          rotate_left
          ·simp only [Act.put, List.setIfInBounds_toArray, List.set_cons_zero, List.set_cons_succ, i64_w, i32_w]
           rfl
          refine pure_ (i := 11) (N := some 42) (v := undef) (a' := ?_) #[true, true, true, true, true, true, true, true, true, true, true, true, false, false] rfl rfl (any_of HT_.out (by kernel_rfl)) (fun _ _ _ h => h) (Or.inr ⟨by rfl, rfl⟩) ?_ ?_
          rotate_left
          ·simp only [Act.put, List.setIfInBounds_toArray, List.set_cons_zero, List.set_cons_succ, i64_w, i32_w]
           rfl
          refine pure_ (i := 12) (N := some 43) (v := undef) (a' := ?_) #[true, true, true, true, true, true, true, true, true, true, true, true, true, false] rfl rfl (any_of HT_.out (by kernel_rfl)) (fun _ _ _ h => h) (Or.inr ⟨by rfl, rfl⟩) ?_ ?_
          rotate_left
          ·simp only [Act.put, List.setIfInBounds_toArray, List.set_cons_zero, List.set_cons_succ, i64_w, i32_w]
           rfl
          refine pure_ (i := 13) (N := some 44) (v := ?_) (a' := ?_) #[true, true, true, true, true, true, true, true, true, true, true, true, true, true] rfl rfl (any_of HT_.out (by kernel_rfl)) (fun _ _ _ h => h) (Or.inl ⟨by rfl, ?_⟩) ?_ ?_
          rotate_left
          ·intro w'
           go_simp
           with_reducible rfl
          rotate_left
          ·simp only [Act.put, List.setIfInBounds_toArray, List.set_cons_zero, List.set_cons_succ, i64_w, i32_w]
           rfl
          refine done_ (done_of HT_.out (by kernel_rfl)) ?_
          try go_wp2
          (try simp only [← hl5_2])
          go_roundg k2
          case measure => have := HK1.out; have := HK2.out; omega
          case rel => exact ⟨(x5_2), (wrap64 (x6_1 + 1)), (by first | rfl | (simp; done) | (simp [*]; done)), H', ⟨by have := HK1.out; have := HK2.out; omega⟩, ⟨by (try simp only [hl5_2]); (with_reducible repeat (first | apply Kd.R_alloc | apply Kd.R_drewN | apply Kd.R_drew)); exact HO_5.out⟩, ⟨by repeat (first | (with_reducible first | exact HB.out | apply below_alloc | apply pw_below_drewN | apply below_drew1) | exact HB.out)⟩⟩
      ·rw [if_neg c6] at H
       exact absurd H (by simp)
     ·rw [if_neg c5] at H
      have c5b0 : (((rd_T28 l0 x6_1).f2) == a1) = false := beq_eq_false_iff_ne.mpr c5
      have c5b1 : (((rd_T28 l0 x6_1).f2) != a1) = true := bne_iff_ne.mpr c5
      have H' := Aside0.mk H
      clear H
      have p530 : 0 ≤ (x6_1 : Int) := of_decide_eq_true (by first | (with_reducible assumption) | assumption)
      have q530 : x6_1 < (l0.length : Int) := of_decide_eq_true (by first | (with_reducible assumption) | assumption)
      obtain ⟨ad530, e530, hx530_0, hx530_1, hx530_2, hx530_3, hx530_4, hx530_5, hx530_6⟩ := at_T28 HR0.out x6_1 p530 q530
      cases e530
      replace hx530_0 := (HB.out.cell (World.block_lt_of_cell? w _ hx530_0)).trans hx530_0
      replace hx530_1 := (HB.out.cell (World.block_lt_of_cell? w _ hx530_1)).trans hx530_1
      replace hx530_2 := (HB.out.cell (World.block_lt_of_cell? w _ hx530_2)).trans hx530_2
      replace hx530_3 := (HB.out.cell (World.block_lt_of_cell? w _ hx530_3)).trans hx530_3
      replace hx530_4 := (HB.out.cell (World.block_lt_of_cell? w _ hx530_4)).trans hx530_4
      replace hx530_5 := (HB.out.cell (World.block_lt_of_cell? w _ hx530_5)).trans hx530_5
      replace hx530_6 := (HB.out.cell (World.block_lt_of_cell? w _ hx530_6)).trans hx530_6
      replace p530 := eq_true p530
      replace q530 := eq_true q530
      go_wp2
      go_roundg k1
      case measure => have := HK1.out; omega
      case rel => exact ⟨(x5_1), (wrap64 (x6_1 + 1)), (by first | rfl | (simp; done) | (simp [*]; done)), H', ⟨by have := HK1.out; omega⟩, ⟨by (with_reducible repeat (first | apply Kd.R_alloc | apply Kd.R_drewN | apply Kd.R_drew)); exact HO_5.out⟩, ⟨by repeat (first | (with_reducible first | exact HB.out | apply below_alloc | apply pw_below_drewN | apply below_drew1) | exact HB.out)⟩⟩
    ·rw [if_neg c4] at H
     exact absurd H (by simp)
   ·rw [if_neg c3] at H
    have c3b0 : decide (x6_1 < (l0.length : Int)) = false := decide_eq_false c3
    clear c3
    obtain rfl := Option.some.inj H
    go_wp2
    go_ret
    exact ⟨_, by first | rfl | (simp [errW_none, errW_some] <;> rfl) | (simp [*, errW_none, errW_some] <;> rfl), by (with_reducible repeat (first | apply Kd.R_alloc | apply Kd.R_drewN | apply Kd.R_drew)); exact HO_5.out, by repeat (first | (with_reducible first | exact HB.out | apply below_alloc | apply pw_below_drewN | apply below_drew1) | exact HB.out)⟩

end Go.Proofs.Ytgohhekihfilbaa.M
