/- What the functions of the program compute, as Lean functions, and the proofs that the machine's calls come to just that. Laid by this session's own program. -/
import Derived.Test.YtgohhekihfilbaaMx0
import Derived.Test.YtgohhekihfilbaaMx1
import Derived.Test.YtgohhekihfilbaaMx2
import Derived.Test.YtgohhekihfilbaaMx3
namespace Go.Proofs.Ytgohhekihfilbaa.M
open Go.RowKit Go.Proofs.YtgohhekihfilbaaW.PrintWords Go.Proofs.YtgohhekihfilbaaW.PrintLast Go.Proofs.YtgohhekihfilbaaW.PrintMore
attribute [local go_sem] max2_int min2_int max_two min_two max_three min_three max_four min_four   -- for this text's walks alone
set_option linter.unusedVariables false
set_option linter.unusedSimpArgs false

attribute [local go_sem high] eqA28
/-! ### rides_Of_2: function 37 -/
def rides_Of_2.f (k : Nat) (a0_0 : Int) (a0_1 : Int) (a0_2 : Int) (a0_3 : Int) (a0_4 : Int) (a0_5 : Int) (a0_6 : Int) (a1_0 : Int) (a1_1 : Int) (a1_2 : Int) (a1_3 : Int) (a1_4 : Int) (a1_5 : Int) (a1_6 : Int) : Option (Int) := (cmp_Compare_int.f a0_6 a1_6).bind fun t127 => ((cmp_Compare_int.f a0_3 a1_3).bind fun t128 => ((rides_order.f k a0_0 a0_1 a0_2 a0_3 a0_4 a0_5 a0_6 a1_0 a1_1 a1_2 a1_3 a1_4 a1_5 a1_6).bind fun t129 => ((cmp_Or_int.f k (([t127, t128, t129] : List Int))).bind fun t133 => (some t133))))
theorem rides_Of_2.mono : ∀ a0 a1 a2 a3 a4 a5 a6 a7 a8 a9 a10 a11 a12 a13 k, LeO (rides_Of_2.f k a0 a1 a2 a3 a4 a5 a6 a7 a8 a9 a10 a11 a12 a13) (rides_Of_2.f (k + 1) a0 a1 a2 a3 a4 a5 a6 a7 a8 a9 a10 a11 a12 a13) := by
 intro a0 a1 a2 a3 a4 a5 a6 a7 a8 a9 a10 a11 a12 a13 k
 unfold rides_Of_2.f
 repeat' first
   | (with_reducible exact cmp_Or_int.mono _ _)
   | (with_reducible exact rides_order.mono _ _ _ _ _ _ _ _ _ _ _ _ _ _ _)
   | (with_reducible exact LeO.refl _)
   | (with_reducible exact LeO.none _)
   | (with_reducible refine LeO.ite ?_ ?_)
   | (with_reducible refine LeO.bind ?_ (fun _ => ?_))
   | exact cmp_Or_int.mono _ _
   | exact rides_order.mono _ _ _ _ _ _ _ _ _ _ _ _ _ _ _
   | exact LeO.none _
   | refine LeO.ite ?_ ?_
   | refine LeO.bind ?_ (fun _ => ?_)
def rides_Of_2.T1 : Bool × List (List Nat × List Nat) := (true, [([], []), ([0], [0]), ([], []), ([2], [2]), ([1, 3], [1, 3]), ([], []), ([5], [5]), ([], []), ([7], [7]), ([6, 8, 4], [6, 8]), ([], []), ([], []), ([10, 11, 9], [10, 11]), ([4, 9, 12], [4, 9, 12]), ([13, 12], [13]), ([14, 14, 0, 1, 2, 3, 4, 5, 6, 7, 8, 9, 10, 11, 12, 13, 14], [14])])
def rides_Of_2.B1 : List Nat := [0, 1, 0, 4, 15, 0, 32, 0, 128, 511, 0, 0, 4095, 8191, 16383, 32767]
theorem rides_Of_2.tab1 : rtab .any (opsOf Try.f37 1) = rides_Of_2.T1 := by kernel_rfl
theorem rides_Of_2.bits1 : waitsOk rides_Of_2.T1.2 rides_Of_2.B1 = true := by kernel_rfl
set_option maxHeartbeats 8000000 in
set_option maxRecDepth 100000 in
theorem rides_Of_2.callsD (k : Nat) (a0_0 : Int) (a0_1 : Int) (a0_2 : Int) (a0_3 : Int) (a0_4 : Int) (a0_5 : Int) (a0_6 : Int) (a1_0 : Int) (a1_1 : Int) (a1_2 : Int) (a1_3 : Int) (a1_4 : Int) (a1_5 : Int) (a1_6 : Int) (r : Int) (w : World) (h : rides_Of_2.f k a0_0 a0_1 a0_2 a0_3 a0_4 a0_5 a0_6 a1_0 a1_1 a1_2 a1_3 a1_4 a1_5 a1_6 = some r) :
  Calls Try.prog 37 #[.agg #[.int .i64 a0_0, .int .i64 a0_1, .int .i64 a0_2, .int .i64 a0_3, .int .i64 a0_4, .int .i64 a0_5, .int .i64 a0_6], .agg #[.int .i64 a1_0, .int .i64 a1_1, .int .i64 a1_2, .int .i64 a1_3, .int .i64 a1_4, .int .i64 a1_5, .int .i64 a1_6]] w fun e w' => e = .returned (.int .i64 r) ∧ Dr.BD w.heap.size w w' := by
 have hu28 := Try.underlying28
 have HB := Aside0.mk (Dr.BD.refl w.heap.size w)
 have H : ((cmp_Compare_int.f a0_6 a1_6).bind fun t127 => ((cmp_Compare_int.f a0_3 a1_3).bind fun t128 => ((rides_order.f k a0_0 a0_1 a0_2 a0_3 a0_4 a0_5 a0_6 a1_0 a1_1 a1_2 a1_3 a1_4 a1_5 a1_6).bind fun t129 => ((cmp_Or_int.f k (([t127, t128, t129] : List Int))).bind fun t133 => (some t133))))) = some r := h
 clear h
 replace H := Option.bind_eq_some_iff.mp H
 obtain ⟨t127, A30, H⟩ := H
 replace H : ((cmp_Compare_int.f a0_3 a1_3).bind fun t128 => ((rides_order.f k a0_0 a0_1 a0_2 a0_3 a0_4 a0_5 a0_6 a1_0 a1_1 a1_2 a1_3 a1_4 a1_5 a1_6).bind fun t129 => ((cmp_Or_int.f k (([t127, t128, t129] : List Int))).bind fun t133 => (some t133)))) = some r := H
 have A3 := Aside0.mk A30
 clear A30
 replace H := Option.bind_eq_some_iff.mp H
 obtain ⟨t128, A40, H⟩ := H
 replace H : ((rides_order.f k a0_0 a0_1 a0_2 a0_3 a0_4 a0_5 a0_6 a1_0 a1_1 a1_2 a1_3 a1_4 a1_5 a1_6).bind fun t129 => ((cmp_Or_int.f k (([t127, t128, t129] : List Int))).bind fun t133 => (some t133))) = some r := H
 have A4 := Aside0.mk A40
 clear A40
 replace H := Option.bind_eq_some_iff.mp H
 obtain ⟨t129, A50, H⟩ := H
 replace H : ((cmp_Or_int.f k (([t127, t128, t129] : List Int))).bind fun t133 => (some t133)) = some r := H
 have A5 := Aside0.mk A50
 clear A50
 obtain ⟨y130, hy130⟩ : ∃ y_ : List Int, y_ = (([t127, t128, t129] : List Int)) := ⟨_, rfl⟩
 replace H : ((cmp_Or_int.f k y130).bind fun t133 => (some t133)) = some r := by first | (rw [hy130]; with_reducible exact H) | (have H2_ := (Option.bind_some _ _).symm.trans H; rw [hy130]; with_reducible exact H2_) | (have H2_ := (Option.bind_some _ _).symm.trans H; with_reducible exact H2_) | with_reducible exact H | (rw [hy130]; exact H) | exact H
 have Ny130 := Aside0.mk hy130
 clear hy130
 replace H := Option.bind_eq_some_iff.mp H
 obtain ⟨t133, A60, H⟩ := H
 replace H : (some t133) = some r := H
 have A6 := Aside0.mk A60
 clear A60
 obtain rfl := Option.some.inj H
 go_enter Try.func37, Try.ntmps37
 try go_wp2_with (first | ((with_reducible refine gate_dst (N := 2) rfl ?_); refine Dr.bd_box_event ?hg (N := 2) ?hd (cs := #[.int .i64 a0_0, .int .i64 a0_1, .int .i64 a0_2, .int .i64 a0_3, .int .i64 a0_4, .int .i64 a0_5, .int .i64 a0_6]) (t := 28) ?hr ?_; (case hd => rfl); (case hg => rfl); (case hr => first | (go_simp; done) | (go_simp; rfl)); intro gb125 hg w7 hbox hb; have n0_ := Aside0.mk (Dr.bd_step (by repeat (first | (with_reducible first | exact HB.out | apply Dr.bd_alloc | apply Dr.bd_drewN | apply Dr.bd_drew1) | exact HB.out)) hb); have n1_ := Aside0.mk (hbox); have n2_ := Aside0.mk ((by rw [hg]; exact (Dr.bd_size (by repeat (first | (with_reducible first | exact HB.out | apply Dr.bd_alloc | apply Dr.bd_drewN | apply Dr.bd_drew1) | exact HB.out))) : w.heap.size ≤ gb125)); have n3_ := Aside0.mk ((by rw [hg]; exact (Dr.bd_size (by repeat (first | (with_reducible first | exact HB.out | apply Dr.bd_alloc | apply Dr.bd_drewN | apply Dr.bd_drew1) | exact HB.out))) : w.heap.size ≤ gb125)); clear HB; have HB := n0_; have BK125 := n1_; have GW125 := n2_; have GE125 := n3_; clear n0_ n1_ n2_ n3_; clear hb hbox hg) | ((with_reducible refine gate_dst (N := 3) rfl ?_); refine Dr.bd_box_event ?hg (N := 3) ?hd (cs := #[.int .i64 a1_0, .int .i64 a1_1, .int .i64 a1_2, .int .i64 a1_3, .int .i64 a1_4, .int .i64 a1_5, .int .i64 a1_6]) (t := 28) ?hr ?_; (case hd => rfl); (case hg => rfl); (case hr => first | (go_simp; done) | (go_simp; rfl)); intro gb126 hg w8 hbox hb; have n0_ := Aside0.mk (Dr.bd_blk_below (g := gb125) (o := .cells #[.int .i64 a0_0, .int .i64 a0_1, .int .i64 a0_2, .int .i64 a0_3, .int .i64 a0_4, .int .i64 a0_5, .int .i64 a0_6] 28 (0, 0)) (by (with_reducible repeat (first | refine blk_drewN ?_ _ | refine blk_drew ?_ | refine blk_alloc ?_ _)); exact BK125.out) hb); have n1_ := Aside0.mk (Dr.bd_step (by repeat (first | (with_reducible first | exact HB.out | apply Dr.bd_alloc | apply Dr.bd_drewN | apply Dr.bd_drew1 | refine Dr.bd_set ?_ GE125.out) | exact HB.out)) hb); have n2_ := Aside0.mk (hbox); have n3_ := Aside0.mk ((by rw [hg]; exact (Dr.bd_size (by repeat (first | (with_reducible first | exact HB.out | apply Dr.bd_alloc | apply Dr.bd_drewN | apply Dr.bd_drew1 | refine Dr.bd_set ?_ GE125.out) | exact HB.out))) : w.heap.size ≤ gb126)); have n4_ := Aside0.mk ((by rw [hg]; exact (Dr.bd_size (by repeat (first | (with_reducible first | exact HB.out | apply Dr.bd_alloc | apply Dr.bd_drewN | apply Dr.bd_drew1 | refine Dr.bd_set ?_ GE125.out) | exact HB.out))) : w.heap.size ≤ gb126)); have n5_ := Aside0.mk ((by rw [hg]; exact Nat.ne_of_lt (blk_lt (g := gb125) (o := .cells #[.int .i64 a0_0, .int .i64 a0_1, .int .i64 a0_2, .int .i64 a0_3, .int .i64 a0_4, .int .i64 a0_5, .int .i64 a0_6] 28 (0, 0)) (by (with_reducible repeat (first | refine blk_drewN ?_ _ | refine blk_drew ?_ | refine blk_alloc ?_ _)); exact BK125.out)) : gb125 ≠ gb126)); have n6_ := Aside0.mk ((by rw [hg]; exact Nat.ne_of_gt (blk_lt (g := gb125) (o := .cells #[.int .i64 a0_0, .int .i64 a0_1, .int .i64 a0_2, .int .i64 a0_3, .int .i64 a0_4, .int .i64 a0_5, .int .i64 a0_6] 28 (0, 0)) (by (with_reducible repeat (first | refine blk_drewN ?_ _ | refine blk_drew ?_ | refine blk_alloc ?_ _)); exact BK125.out)) : gb126 ≠ gb125)); clear BK125; clear HB; have BK125 := n0_; have HB := n1_; have BK126 := n2_; have GW126 := n3_; have GE126 := n4_; have NB125_126 := n5_; have NB126_125 := n6_; clear n0_ n1_ n2_ n3_ n4_ n5_ n6_; clear hb hbox hg))
 have n0_ := Aside0.mk (blk_drew BK125.out)
 have n1_ := Aside0.mk (blk_drew BK126.out)
 have n2_ := Aside0.mk (Dr.bd_drew1 HB.out)
 clear BK125
 clear BK126
 clear HB
 have BK125 := n0_
 have BK126 := n1_
 have HB := n2_
 clear n0_ n1_ n2_
 refine start_ (n := 16) (S := fun w' => w'.cell? ⟨gb125, 0, none⟩ = some (.int .i64 a0_0) ∧ w'.cell? ⟨gb125, 1, none⟩ = some (.int .i64 a0_1) ∧ w'.cell? ⟨gb125, 2, none⟩ = some (.int .i64 a0_2) ∧ w'.cell? ⟨gb125, 3, none⟩ = some (.int .i64 a0_3) ∧ w'.cell? ⟨gb125, 4, none⟩ = some (.int .i64 a0_4) ∧ w'.cell? ⟨gb125, 5, none⟩ = some (.int .i64 a0_5) ∧ w'.cell? ⟨gb125, 6, none⟩ = some (.int .i64 a0_6) ∧ w'.cell? ⟨gb126, 0, none⟩ = some (.int .i64 a1_0) ∧ w'.cell? ⟨gb126, 1, none⟩ = some (.int .i64 a1_1) ∧ w'.cell? ⟨gb126, 2, none⟩ = some (.int .i64 a1_2) ∧ w'.cell? ⟨gb126, 3, none⟩ = some (.int .i64 a1_3) ∧ w'.cell? ⟨gb126, 4, none⟩ = some (.int .i64 a1_4) ∧ w'.cell? ⟨gb126, 5, none⟩ = some (.int .i64 a1_5) ∧ w'.cell? ⟨gb126, 6, none⟩ = some (.int .i64 a1_6)) (ds := []) #[false, false, false, false, false, false, false, false, false, false, false, false, false, false, false, false] (by kernel_rfl) rfl rfl ⟨(blk_cell BK125.out 0).trans rfl, (blk_cell BK125.out 1).trans rfl, (blk_cell BK125.out 2).trans rfl, (blk_cell BK125.out 3).trans rfl, (blk_cell BK125.out 4).trans rfl, (blk_cell BK125.out 5).trans rfl, (blk_cell BK125.out 6).trans rfl, (blk_cell BK126.out 0).trans rfl, (blk_cell BK126.out 1).trans rfl, (blk_cell BK126.out 2).trans rfl, (blk_cell BK126.out 3).trans rfl, (blk_cell BK126.out 4).trans rfl, (blk_cell BK126.out 5).trans rfl, (blk_cell BK126.out 6).trans rfl⟩ (fun hHeld => ?_); refine with_tabW rides_Of_2.tab1 rides_Of_2.bits1 (fun HT_ HW_ => ?_)
 generalize w8.drew = w9 at BK125 BK126 HB hHeld ⊢
 refine pure_ (i := 0) (N := some 5) (v := ?_) (a' := ?_) #[true, false, false, false, false, false, false, false, false, false, false, false, false, false, false, false] rfl rfl (any_of HT_.out (by kernel_rfl)) (fun _ _ _ h => h) (Or.inl ⟨by rfl, ?_⟩) ?_ ?_
 rotate_left
 ·intro w'
  go_simp
  with_reducible rfl
 rotate_left
 ·simp only [Act.put, List.setIfInBounds_toArray, List.set_cons_zero, List.set_cons_succ, i64_w, i32_w]
  rfl
 refine pure_ (i := 2) (N := some 7) (v := ?_) (a' := ?_) #[true, false, true, false, false, false, false, false, false, false, false, false, false, false, false, false] rfl rfl (any_of HT_.out (by kernel_rfl)) (fun _ _ _ h => h) (Or.inl ⟨by rfl, ?_⟩) ?_ ?_
 rotate_left
 ·intro w'
  go_simp
  with_reducible rfl
 rotate_left
 ·simp only [Act.put, List.setIfInBounds_toArray, List.set_cons_zero, List.set_cons_succ, i64_w, i32_w]
  rfl
 refine pure_ (i := 5) (N := some 10) (v := ?_) (a' := ?_) #[true, false, true, false, false, true, false, false, false, false, false, false, false, false, false, false] rfl rfl (any_of HT_.out (by kernel_rfl)) (fun _ _ _ h => h) (Or.inl ⟨by rfl, ?_⟩) ?_ ?_
 rotate_left
 ·intro w'
  go_simp
  with_reducible rfl
 rotate_left
 ·simp only [Act.put, List.setIfInBounds_toArray, List.set_cons_zero, List.set_cons_succ, i64_w, i32_w]
  rfl
 refine pure_ (i := 7) (N := some 12) (v := ?_) (a' := ?_) #[true, false, true, false, false, true, false, true, false, false, false, false, false, false, false, false] rfl rfl (any_of HT_.out (by kernel_rfl)) (fun _ _ _ h => h) (Or.inl ⟨by rfl, ?_⟩) ?_ ?_
 rotate_left
 ·intro w'
  go_simp
  with_reducible rfl
 rotate_left
 ·simp only [Act.put, List.setIfInBounds_toArray, List.set_cons_zero, List.set_cons_succ, i64_w, i32_w]
  rfl
 refine take_ (i := 1) (N := some 6) (v := ?_) (a' := ?_) #[true, true, true, false, false, true, false, true, false, false, false, false, false, false, false, false] rfl rfl (take_ofW HT_.out HW_.out (by kernel_rfl)) (fun _ _ _ h => h) (Or.inl ⟨by rfl, ?_⟩) hHeld ?_ ?_
 rotate_left
 ·rintro w' ⟨s0, s1, s2, s3, s4, s5, s6, s7, s8, s9, s10, s11, s12, s13⟩
  go_simp
  with_reducible rfl
 rotate_left
 ·simp only [Act.put, List.setIfInBounds_toArray, List.set_cons_zero, List.set_cons_succ, i64_w, i32_w]
  rfl
 refine take_ (i := 3) (N := some 8) (v := ?_) (a' := ?_) #[true, true, true, true, false, true, false, true, false, false, false, false, false, false, false, false] rfl rfl (take_ofW HT_.out HW_.out (by kernel_rfl)) (fun _ _ _ h => h) (Or.inl ⟨by rfl, ?_⟩) hHeld ?_ ?_
 rotate_left
 ·rintro w' ⟨s0, s1, s2, s3, s4, s5, s6, s7, s8, s9, s10, s11, s12, s13⟩
  go_simp
  with_reducible rfl
 rotate_left
 ·simp only [Act.put, List.setIfInBounds_toArray, List.set_cons_zero, List.set_cons_succ, i64_w, i32_w]
  rfl
 refine take_ (i := 6) (N := some 11) (v := ?_) (a' := ?_) #[true, true, true, true, false, true, true, true, false, false, false, false, false, false, false, false] rfl rfl (take_ofW HT_.out HW_.out (by kernel_rfl)) (fun _ _ _ h => h) (Or.inl ⟨by rfl, ?_⟩) hHeld ?_ ?_
 rotate_left
 ·rintro w' ⟨s0, s1, s2, s3, s4, s5, s6, s7, s8, s9, s10, s11, s12, s13⟩
  go_simp
  with_reducible rfl
 rotate_left
 ·simp only [Act.put, List.setIfInBounds_toArray, List.set_cons_zero, List.set_cons_succ, i64_w, i32_w]
  rfl
 refine take_ (i := 8) (N := some 13) (v := ?_) (a' := ?_) #[true, true, true, true, false, true, true, true, true, false, false, false, false, false, false, false] rfl rfl (take_ofW HT_.out HW_.out (by kernel_rfl)) (fun _ _ _ h => h) (Or.inl ⟨by rfl, ?_⟩) hHeld ?_ ?_
 rotate_left
 ·rintro w' ⟨s0, s1, s2, s3, s4, s5, s6, s7, s8, s9, s10, s11, s12, s13⟩
  go_simp
  with_reducible rfl
 rotate_left
 ·simp only [Act.put, List.setIfInBounds_toArray, List.set_cons_zero, List.set_cons_succ, i64_w, i32_w]
  rfl
 refine take_ (i := 10) (N := some 15) (v := ?_) (a' := ?_) #[true, true, true, true, false, true, true, true, true, false, true, false, false, false, false, false] rfl rfl (take_ofW HT_.out HW_.out (by kernel_rfl)) (fun _ _ _ h => h) (Or.inl ⟨by rfl, ?_⟩) hHeld ?_ ?_
 rotate_left
 ·rintro w' ⟨s0, s1, s2, s3, s4, s5, s6, s7, s8, s9, s10, s11, s12, s13⟩
  go_simp
  with_reducible rfl
 rotate_left
 ·simp only [Act.put, List.setIfInBounds_toArray, List.set_cons_zero, List.set_cons_succ, i64_w, i32_w]
  rfl
 refine take_ (i := 11) (N := some 16) (v := ?_) (a' := ?_) #[true, true, true, true, false, true, true, true, true, false, true, true, false, false, false, false] rfl rfl (take_ofW HT_.out HW_.out (by kernel_rfl)) (fun _ _ _ h => h) (Or.inl ⟨by rfl, ?_⟩) hHeld ?_ ?_
 rotate_left
 ·rintro w' ⟨s0, s1, s2, s3, s4, s5, s6, s7, s8, s9, s10, s11, s12, s13⟩
  go_simp
  with_reducible rfl
 rotate_left
 ·simp only [Act.put, List.setIfInBounds_toArray, List.set_cons_zero, List.set_cons_succ, i64_w, i32_w]
  rfl
 refine one_ (i := 4) (N := some 9) #[true, true, true, true, true, true, true, true, true, false, true, true, false, false, false, false] rfl rfl (one_of HT_.out (by kernel_rfl)) (by decide) (fun K hK => ?_)
 refine goes_ Try.func39 (by kernel_rfl) rfl #[.int .i64 a0_6, .int .i64 a1_6] (by rfl) rfl rfl (by (try simp only [List.map_toArray, List.map_cons, List.map_nil]); first | done | rfl | (simp only [List.length_drop, List.length_take]; rfl)) ?_
 with_reducible refine (cmp_Compare_int.calls a0_6 a1_6 t127 _ A3.out).mono ?_
 rintro e w' ⟨rfl, ⟨nd, rfl⟩⟩
 refine ⟨_, rfl, ?_⟩
 refine hK.out _ _ ⟨(blk_cell BK125.out 0).trans rfl, (blk_cell BK125.out 1).trans rfl, (blk_cell BK125.out 2).trans rfl, (blk_cell BK125.out 3).trans rfl, (blk_cell BK125.out 4).trans rfl, (blk_cell BK125.out 5).trans rfl, (blk_cell BK125.out 6).trans rfl, (blk_cell BK126.out 0).trans rfl, (blk_cell BK126.out 1).trans rfl, (blk_cell BK126.out 2).trans rfl, (blk_cell BK126.out 3).trans rfl, (blk_cell BK126.out 4).trans rfl, (blk_cell BK126.out 5).trans rfl, (blk_cell BK126.out 6).trans rfl⟩ (fun hHeld => ?_)
 clear hK K
 refine norm_ (a' := ?_) ?_ ?_
 rotate_left
 ·show Act.put _ (some 9) _ = _
  simp only [Act.put, List.setIfInBounds_toArray, List.set_cons_zero, List.set_cons_succ, i64_w, i32_w]
  rfl
 refine one_ (i := 9) (N := some 14) #[true, true, true, true, true, true, true, true, true, true, true, true, false, false, false, false] rfl rfl (one_of HT_.out (by kernel_rfl)) (by decide) (fun K hK => ?_)
 refine goes_ Try.func39 (by kernel_rfl) rfl #[.int .i64 a0_3, .int .i64 a1_3] (by rfl) rfl rfl (by (try simp only [List.map_toArray, List.map_cons, List.map_nil]); first | done | rfl | (simp only [List.length_drop, List.length_take]; rfl)) ?_
 with_reducible refine (cmp_Compare_int.calls a0_3 a1_3 t128 _ A4.out).mono ?_
 rintro e w' ⟨rfl, ⟨nd, rfl⟩⟩
 refine ⟨_, rfl, ?_⟩
 refine hK.out _ _ ⟨(blk_cell BK125.out 0).trans rfl, (blk_cell BK125.out 1).trans rfl, (blk_cell BK125.out 2).trans rfl, (blk_cell BK125.out 3).trans rfl, (blk_cell BK125.out 4).trans rfl, (blk_cell BK125.out 5).trans rfl, (blk_cell BK125.out 6).trans rfl, (blk_cell BK126.out 0).trans rfl, (blk_cell BK126.out 1).trans rfl, (blk_cell BK126.out 2).trans rfl, (blk_cell BK126.out 3).trans rfl, (blk_cell BK126.out 4).trans rfl, (blk_cell BK126.out 5).trans rfl, (blk_cell BK126.out 6).trans rfl⟩ (fun hHeld => ?_)
 clear hK K
 refine norm_ (a' := ?_) ?_ ?_
 rotate_left
 ·show Act.put _ (some 14) _ = _
  simp only [Act.put, List.setIfInBounds_toArray, List.set_cons_zero, List.set_cons_succ, i64_w, i32_w]
  rfl
 refine one_ (i := 12) (N := some 17) #[true, true, true, true, true, true, true, true, true, true, true, true, true, false, false, false] rfl rfl (one_of HT_.out (by kernel_rfl)) (by decide) (fun K hK => ?_)
 refine goes_ Try.func29 (by kernel_rfl) rfl #[.agg #[.int .i64 a0_0, .int .i64 a0_1, .int .i64 a0_2, .int .i64 a0_3, .int .i64 a0_4, .int .i64 a0_5, .int .i64 a0_6], .agg #[.int .i64 a1_0, .int .i64 a1_1, .int .i64 a1_2, .int .i64 a1_3, .int .i64 a1_4, .int .i64 a1_5, .int .i64 a1_6]] (by rfl) rfl rfl (by (try simp only [List.map_toArray, List.map_cons, List.map_nil]); first | done | rfl | (simp only [List.length_drop, List.length_take]; rfl)) ?_
 with_reducible refine (rides_order.callsD k a0_0 a0_1 a0_2 a0_3 a0_4 a0_5 a0_6 a1_0 a1_1 a1_2 a1_3 a1_4 a1_5 a1_6 t129 _ A5.out).mono ?_
 rintro e w10 ⟨rfl, hb⟩
 refine ⟨_, rfl, ?_⟩
 have n0_ := Aside0.mk (Dr.bd_blk_below (g := gb125) (o := .cells #[.int .i64 a0_0, .int .i64 a0_1, .int .i64 a0_2, .int .i64 a0_3, .int .i64 a0_4, .int .i64 a0_5, .int .i64 a0_6] 28 (0, 0)) (by (with_reducible repeat (first | refine blk_drewN ?_ _ | refine blk_drew ?_ | refine blk_alloc ?_ _)); exact BK125.out) hb)
 have n1_ := Aside0.mk (Dr.bd_blk_below (g := gb126) (o := .cells #[.int .i64 a1_0, .int .i64 a1_1, .int .i64 a1_2, .int .i64 a1_3, .int .i64 a1_4, .int .i64 a1_5, .int .i64 a1_6] 28 (0, 0)) (by (with_reducible repeat (first | refine blk_drewN ?_ _ | refine blk_drew ?_ | refine blk_alloc ?_ _)); exact BK126.out) hb)
 have n2_ := Aside0.mk (Dr.bd_step (by repeat (first | (with_reducible first | exact HB.out | apply Dr.bd_alloc | apply Dr.bd_drewN | apply Dr.bd_drew1 | refine Dr.bd_set ?_ GE125.out | refine Dr.bd_set ?_ GE126.out) | exact HB.out)) hb)
 clear BK125
 clear BK126
 clear HB
 have BK125 := n0_
 have BK126 := n1_
 have HB := n2_
 clear n0_ n1_ n2_
 (try clear hb)
 (try clear hb2)
 (try clear hk)
 (try clear hi)
 refine hK.out _ _ ⟨(blk_cell BK125.out 0).trans rfl, (blk_cell BK125.out 1).trans rfl, (blk_cell BK125.out 2).trans rfl, (blk_cell BK125.out 3).trans rfl, (blk_cell BK125.out 4).trans rfl, (blk_cell BK125.out 5).trans rfl, (blk_cell BK125.out 6).trans rfl, (blk_cell BK126.out 0).trans rfl, (blk_cell BK126.out 1).trans rfl, (blk_cell BK126.out 2).trans rfl, (blk_cell BK126.out 3).trans rfl, (blk_cell BK126.out 4).trans rfl, (blk_cell BK126.out 5).trans rfl, (blk_cell BK126.out 6).trans rfl⟩ (fun hHeld => ?_)
 clear hK K
 refine norm_ (a' := ?_) ?_ ?_
 rotate_left
 ·show Act.put _ (some 17) _ = _
  simp only [Act.put, List.setIfInBounds_toArray, List.set_cons_zero, List.set_cons_succ, i64_w, i32_w]
  rfl
 refine one_ (i := 13) (N := some 18) #[true, true, true, true, true, true, true, true, true, true, true, true, true, true, false, false] rfl rfl (one_of HT_.out (by kernel_rfl)) (by decide) (fun K hK => ?_)
 refine Dr.bd_lit_step (Kd.int .i64) _ 3 ?hg (N := 18) ?hd (xs := ([t127, t128, t129] : List Int)) (inner := [.int .i64 t127, .int .i64 t128, .int .i64 t129]) (ok := fun _ => True) (okp := fun _ => True) ?hr ?hp (fun _ hk => hk) trivial (Dr.BD.refl _ _) (Nat.le_refl _) (by simp) ?_; (case hd => rfl); (case hg => rfl); (case hr => first | (go_simp; done) | (go_simp; rfl)); (case hp => exact (Reps.one (show Kd.M (Kd.int .i64) _ _ _ t127 [.int .i64 t127] from rfl) (Reps.one (show Kd.M (Kd.int .i64) _ _ _ t128 [.int .i64 t128] from rfl) (Reps.one (show Kd.M (Kd.int .i64) _ _ _ t129 [.int .i64 t129] from rfl) (Reps.none _ _)))))
 intro v131 w11 ho12 hb hg_ hnew_
 clear hg_ hnew_
 (first | rw [← Ny130.out] at ho12 | (simp only [Int.reduceToNat] at ho12; rw [← Ny130.out] at ho12))
 have n0_ := Aside0.mk (Kd.R_lower ho12 (Dr.bd_size (by repeat (first | (with_reducible first | exact HB.out | apply Dr.bd_alloc | apply Dr.bd_drewN | apply Dr.bd_drew1 | refine Dr.bd_set ?_ GE125.out | refine Dr.bd_set ?_ GE126.out) | exact HB.out))))
 have n1_ := Aside0.mk (Dr.bd_blk_below (g := gb125) (o := .cells #[.int .i64 a0_0, .int .i64 a0_1, .int .i64 a0_2, .int .i64 a0_3, .int .i64 a0_4, .int .i64 a0_5, .int .i64 a0_6] 28 (0, 0)) (by (with_reducible repeat (first | refine blk_drewN ?_ _ | refine blk_drew ?_ | refine blk_alloc ?_ _)); exact BK125.out) hb)
 have n2_ := Aside0.mk (Dr.bd_blk_below (g := gb126) (o := .cells #[.int .i64 a1_0, .int .i64 a1_1, .int .i64 a1_2, .int .i64 a1_3, .int .i64 a1_4, .int .i64 a1_5, .int .i64 a1_6] 28 (0, 0)) (by (with_reducible repeat (first | refine blk_drewN ?_ _ | refine blk_drew ?_ | refine blk_alloc ?_ _)); exact BK126.out) hb)
 have n3_ := Aside0.mk (Dr.bd_step (by repeat (first | (with_reducible first | exact HB.out | apply Dr.bd_alloc | apply Dr.bd_drewN | apply Dr.bd_drew1 | refine Dr.bd_set ?_ GE125.out | refine Dr.bd_set ?_ GE126.out) | exact HB.out)) hb)
 clear BK125
 clear BK126
 clear HB
 have HO132 := n0_
 have BK125 := n1_
 have BK126 := n2_
 have HB := n3_
 clear n0_ n1_ n2_ n3_
 clear hb ho12
 obtain ⟨Ao13, co13, eo13⟩ := Kd.R_slice HO132.out
 (first | subst eo13 | (injection eo13 with f1_ f2_ f3_; have f4_ := f1_.symm; have f5_ := f3_.symm; clear f1_ f2_ f3_; subst f4_; subst f5_))
 refine hK.out _ _ ⟨(blk_cell BK125.out 0).trans rfl, (blk_cell BK125.out 1).trans rfl, (blk_cell BK125.out 2).trans rfl, (blk_cell BK125.out 3).trans rfl, (blk_cell BK125.out 4).trans rfl, (blk_cell BK125.out 5).trans rfl, (blk_cell BK125.out 6).trans rfl, (blk_cell BK126.out 0).trans rfl, (blk_cell BK126.out 1).trans rfl, (blk_cell BK126.out 2).trans rfl, (blk_cell BK126.out 3).trans rfl, (blk_cell BK126.out 4).trans rfl, (blk_cell BK126.out 5).trans rfl, (blk_cell BK126.out 6).trans rfl⟩ (fun hHeld => ?_)
 clear hK K
 refine norm_ (a' := ?_) ?_ ?_
 rotate_left
 ·show Act.put _ (some 18) _ = _
  simp only [Act.put, List.setIfInBounds_toArray, List.set_cons_zero, List.set_cons_succ, i64_w, i32_w]
  rfl
 refine one_ (i := 14) (N := some 19) #[true, true, true, true, true, true, true, true, true, true, true, true, true, true, true, false] rfl rfl (one_of HT_.out (by kernel_rfl)) (by decide) (fun K hK => ?_)
 refine goes_ Try.func38 (by kernel_rfl) rfl #[.slice Ao13 y130.length co13] (by rfl) rfl rfl (by (try simp only [List.map_toArray, List.map_cons, List.map_nil]); first | done | rfl | (simp only [List.length_drop, List.length_take]; rfl)) ?_
 with_reducible refine (cmp_Or_int.calls k _ _ y130 t133 _ ?side1 ?side2 A6.out).mono ?_
 (case side1 => repeat (first | exact (Kd.R_reads' HO132.out).2.2 | (with_reducible refine Kd.C_alloc ?_ _) | (with_reducible refine Kd.C_drewN ?_ _) | (with_reducible refine Kd.C_drew ?_)))
 (case side2 => exact (Kd.R_reads' HO132.out).2.1)
 rintro e w' ⟨rfl, ⟨nd, rfl⟩⟩
 refine ⟨_, rfl, ?_⟩
 refine hK.out _ _ ⟨(blk_cell BK125.out 0).trans rfl, (blk_cell BK125.out 1).trans rfl, (blk_cell BK125.out 2).trans rfl, (blk_cell BK125.out 3).trans rfl, (blk_cell BK125.out 4).trans rfl, (blk_cell BK125.out 5).trans rfl, (blk_cell BK125.out 6).trans rfl, (blk_cell BK126.out 0).trans rfl, (blk_cell BK126.out 1).trans rfl, (blk_cell BK126.out 2).trans rfl, (blk_cell BK126.out 3).trans rfl, (blk_cell BK126.out 4).trans rfl, (blk_cell BK126.out 5).trans rfl, (blk_cell BK126.out 6).trans rfl⟩ (fun hHeld => ?_)
 clear hK K
 refine norm_ (a' := ?_) ?_ ?_
 rotate_left
 ·show Act.put _ (some 19) _ = _
  simp only [Act.put, List.setIfInBounds_toArray, List.set_cons_zero, List.set_cons_succ, i64_w, i32_w]
  rfl
 refine pure_ (i := 15) (N := some 4) (v := ?_) (a' := ?_) #[true, true, true, true, true, true, true, true, true, true, true, true, true, true, true, true] rfl rfl (any_of HT_.out (by kernel_rfl)) (fun _ _ _ h => h) (Or.inl ⟨by rfl, ?_⟩) ?_ ?_
 rotate_left
 ·intro w'
  go_simp
  with_reducible rfl
 rotate_left
 ·simp only [Act.put, List.setIfInBounds_toArray, List.set_cons_zero, List.set_cons_succ, i64_w, i32_w]
  rfl
 refine done_ (done_of HT_.out (by kernel_rfl)) ?_
 try go_wp2
 go_ret
 exact ⟨by first | rfl | (simp [errW_none, errW_some] <;> rfl) | (simp [*, errW_none, errW_some] <;> rfl), by repeat (first | (with_reducible first | exact HB.out | apply Dr.bd_alloc | apply Dr.bd_drewN | apply Dr.bd_drew1 | refine Dr.bd_set ?_ GE125.out | refine Dr.bd_set ?_ GE126.out) | exact HB.out)⟩

theorem rides_Of_2.calls (k : Nat) (a0_0 : Int) (a0_1 : Int) (a0_2 : Int) (a0_3 : Int) (a0_4 : Int) (a0_5 : Int) (a0_6 : Int) (a1_0 : Int) (a1_1 : Int) (a1_2 : Int) (a1_3 : Int) (a1_4 : Int) (a1_5 : Int) (a1_6 : Int) (r : Int) (w : World) (h : rides_Of_2.f k a0_0 a0_1 a0_2 a0_3 a0_4 a0_5 a0_6 a1_0 a1_1 a1_2 a1_3 a1_4 a1_5 a1_6 = some r) :
  Calls Try.prog 37 #[.agg #[.int .i64 a0_0, .int .i64 a0_1, .int .i64 a0_2, .int .i64 a0_3, .int .i64 a0_4, .int .i64 a0_5, .int .i64 a0_6], .agg #[.int .i64 a1_0, .int .i64 a1_1, .int .i64 a1_2, .int .i64 a1_3, .int .i64 a1_4, .int .i64 a1_5, .int .i64 a1_6]] w fun e w' => e = .returned (.int .i64 r) ∧ Below w.heap.size w w' :=
 (rides_Of_2.callsD k a0_0 a0_1 a0_2 a0_3 a0_4 a0_5 a0_6 a1_0 a1_1 a1_2 a1_3 a1_4 a1_5 a1_6 r w h).mono fun _ _ h_ => ⟨h_.1, h_.2.b⟩

/-! ### rides_Of_2_sort: slices.SortFunc (function 34) with function 37 -/
def rides_Of_2_ks (x : S28) : List Int := [x.f6, x.f3, x.f0, x.f1]
def rides_Of_2_cf (x y : S28) : Int := Lx.lexL (rides_Of_2_ks x) (rides_Of_2_ks y)
theorem rides_Of_2_swo : Go.Sort.SWO (Go.Proofs.ltOf rides_Of_2_cf) := Lx.swo rides_Of_2_ks 4 (fun _ => rfl)
theorem rides_Of_2_cfE (x y : S28) : rides_Of_2.f 6 x.f0 x.f1 x.f2 x.f3 x.f4 x.f5 x.f6 y.f0 y.f1 y.f2 y.f3 y.f4 y.f5 y.f6 = some (rides_Of_2_cf x y) := by
 have hc : ∀ a b : Int, cmp_Compare_int.f a b = some (if a < b then -1 else if b < a then 1 else 0) := fun a b => by
  simp only [cmp_Compare_int.f, cmp_isNaN_int.f, Option.bind_some, bne_self_eq_false, Bool.false_eq_true, if_false, gt_iff_lt]
  split
  ·rfl
  ·split <;> rfl
 have ho : ∀ a b c : Int, cmp_Or_int.f 6 [a, b, c] = some (if a = 0 then (if b = 0 then c else b) else a) := fun a b c => by
  by_cases h1 : a = 0 <;> by_cases h2 : b = 0 <;> by_cases h3 : c = 0 <;> simp [cmp_Or_int.f, cmp_Or_int.l0, rd, h1, h2, h3, show wrap64 1 = 1 from by decide +kernel, show wrap64 2 = 2 from by decide +kernel, show wrap64 3 = 3 from by decide +kernel]
 simp only [rides_Of_2.f, hc, rides_order_cfE, ho, Option.bind_some, rides_Of_2_cf, Lx.lexL, rides_Of_2_ks, rides_order_cf, rides_order_ks]
 congr 1
 repeat' split
 all_goals first | rfl | omega | simp_all
def rides_Of_2_sort.f (l : List S28) : Option (List S28) := if l.length < 4611686018427387904 then some (Sr.srt rides_Of_2_cf l) else none
theorem rides_Of_2_sort.calls (P0_ : Nat → Prop) (u9000_ : Value) (l0 : List S28) (r : List S28) (w0 w : World) (hB : Below w0.heap.size w0 w) (ho0 : Kd.R k28 28 w w0.heap.size P0_ u9000_ l0) (h : rides_Of_2_sort.f l0 = some r) :
  Calls Try.prog 34 #[u9000_, .func (.func 37) #[] #[]] w fun e w' => e = .returned (.tuple #[]) ∧ Kd.R k28 28 w' w0.heap.size (fun k_ => (P0_ k_ ∨ w.heap.size ≤ k_)) u9000_ r ∧ Below w0.heap.size w0 w' ∧ Kept w w' (fun k_ => P0_ k_) := by
 unfold rides_Of_2_sort.f at h
 split at h
 case isFalse => exact absurd h (by simp)
 rename_i hl_
 obtain rfl := Option.some.inj h
 exact Sr.sort_calls YtgohhekihfilbaaSort34 plain28 (fun w => by first | exact Try.isAgg28 w | kernel_rfl) (fun w => by first | exact Try.sizeOf28 w | kernel_rfl) rides_Of_2_cf rides_Of_2_swo 37 (enters_of Try.func37 (by kernel_rfl) rfl) (fun W x y => (rides_Of_2.callsD 6 x.f0 x.f1 x.f2 x.f3 x.f4 x.f5 x.f6 y.f0 y.f1 y.f2 y.f3 y.f4 y.f5 y.f6 _ W (rides_Of_2_cfE x y)).mono fun _ _ h_ => ⟨h_.1, h_.2.grow⟩) P0_ u9000_ l0 _ w0 w hB ho0 hl_

theorem keyed50 : Go.Maps.Keyed Try.prog 52 := Mp.pair_keyed (P := Try.prog) (by kernel_rfl) (of_decide_eq_true (by kernel_rfl)) (of_decide_eq_true (by kernel_rfl)) (by kernel_rfl) (by kernel_rfl)
theorem keyof50 {a b : Int} (wa : Mp.inI64 a = true) (wb : Mp.inI64 b = true) : keyOf Try.prog 52 (Mp.pk (a, b)) = some (.string (keyBytes [.int .i64 a, .int .i64 b])) := Mp.pk_key Try.underlying52 (by exact Try.underlying3) (by exact Try.underlying3) (by decide) rfl rfl (by kernel_rfl) (by kernel_rfl) (by kernel_rfl) (by kernel_rfl) (of_decide_eq_true (by kernel_rfl)) wa wb
theorem zeroE50 (w : World) : (zeroValue 28).run Try.prog w = .ok (.agg #[.int .i64 0, .int .i64 0, .int .i64 0, .int .i64 0, .int .i64 0, .int .i64 0, .int .i64 0]) w := by kernel_rfl
def ev50 (x : S28) : Value := .agg #[.int .i64 x.f0, .int .i64 x.f1, .int .i64 x.f2, .int .i64 x.f3, .int .i64 x.f4, .int .i64 x.f5, .int .i64 x.f6]
def MAPPUT50.f : Option Unit := some ()
/-! ### rides_Merge: function 18 -/
mutual
def rides_Merge.l0 : Nat → List (S28) → List (S28) → List ((Int × Int) × S28) → List (S28) → Int → Int → Option ((List (S28)) × Int)
 | 0, _, _, _, _, _, _ => none
 | k + 1, x0, x1, x6, x15, x16, x17 => if x17 < x16 then (if 0 ≤ x17 then (if x17 < (x15.length : Int) then ((rides_keyOf.f ((rd_T28 x15 x17).f0) ((rd_T28 x15 x17).f1) ((rd_T28 x15 x17).f2) ((rd_T28 x15 x17).f3) ((rd_T28 x15 x17).f4) ((rd_T28 x15 x17).f5) ((rd_T28 x15 x17).f6)).bind fun bt136 => (if Mp.inI64 bt136.1 = true then (if Mp.inI64 bt136.2 = true then (if x6.length < 4611686018427387904 then ((MAPPUT50.f).bind fun _ => (rides_Merge.l0 k x0 x1 (((bt136.1, bt136.2), (⟨(rd_T28 x15 x17).f0, (rd_T28 x15 x17).f1, (rd_T28 x15 x17).f2, (rd_T28 x15 x17).f3, (rd_T28 x15 x17).f4, (rd_T28 x15 x17).f5, (rd_T28 x15 x17).f6⟩ : S28)) :: x6) x15 x16 (wrap64 (x17 + 1)))) else (none)) else (none)) else (none))) else (none)) else (none)) else ((api_Ride_33.f x0).bind fun t138 => (rides_Merge.l1 k x6 t138 x1 (x1.length : Int) 0))
def rides_Merge.l1 : Nat → List ((Int × Int) × S28) → List (S28) → List (S28) → Int → Int → Option ((List (S28)) × Int)
 | 0, _, _, _, _, _ => none
 | k + 1, x6, x9, x28, x29, x30 => if x30 < x29 then (if 0 ≤ x30 then (if x30 < (x28.length : Int) then ((rides_keyOf.f ((rd_T28 x28 x30).f0) ((rd_T28 x28 x30).f1) ((rd_T28 x28 x30).f2) ((rd_T28 x28 x30).f3) ((rd_T28 x28 x30).f4) ((rd_T28 x28 x30).f5) ((rd_T28 x28 x30).f6)).bind fun bt144 => (if Mp.inI64 bt144.1 = true then (if Mp.inI64 bt144.2 = true then (if (Mp.look (bt144.1, bt144.2) x6).isSome = true then (if (!((((Mp.look (bt144.1, bt144.2) x6).getD z28).f0) == ((rd_T28 x28 x30).f0)) || (!((((Mp.look (bt144.1, bt144.2) x6).getD z28).f1) == ((rd_T28 x28 x30).f1)) || (!((((Mp.look (bt144.1, bt144.2) x6).getD z28).f2) == ((rd_T28 x28 x30).f2)) || (!((((Mp.look (bt144.1, bt144.2) x6).getD z28).f3) == ((rd_T28 x28 x30).f3)) || (!((((Mp.look (bt144.1, bt144.2) x6).getD z28).f4) == ((rd_T28 x28 x30).f4)) || (!((((Mp.look (bt144.1, bt144.2) x6).getD z28).f5) == ((rd_T28 x28 x30).f5)) || (!((((Mp.look (bt144.1, bt144.2) x6).getD z28).f6) == ((rd_T28 x28 x30).f6))))))))) = true then (some (([] : List (S28)), 15)) else (rides_Merge.l1 k x6 x9 x28 x29 (wrap64 (x30 + 1)))) else (if x9.length < 2513169434916 then (rides_Merge.l1 k x6 (x9 ++ [(⟨(rd_T28 x28 x30).f0, (rd_T28 x28 x30).f1, (rd_T28 x28 x30).f2, (rd_T28 x28 x30).f3, (rd_T28 x28 x30).f4, (rd_T28 x28 x30).f5, (rd_T28 x28 x30).f6⟩ : S28)]) x28 x29 (wrap64 (x30 + 1))) else (none))) else (none)) else (none))) else (none)) else (none)) else (if (x9.length : Int) > 2000 then (some (([] : List (S28)), 9)) else ((rides_order_sort.f x9).bind fun t141 => (some (t141, 0))))
end
def rides_Merge.f (k : Nat) (l0 : List (S28)) (l1 : List (S28)) : Option ((List (S28)) × Int) := rides_Merge.l0 k l0 l1 ([] : List ((Int × Int) × S28)) l0 (l0.length : Int) 0
set_option maxRecDepth 100000 in
theorem rides_Merge.mono_l : ∀ k, (∀ y0 y1 y2 y3 y4 y5, LeO (rides_Merge.l0 k y0 y1 y2 y3 y4 y5) (rides_Merge.l0 (k + 1) y0 y1 y2 y3 y4 y5)) ∧ (∀ y0 y1 y2 y3 y4, LeO (rides_Merge.l1 k y0 y1 y2 y3 y4) (rides_Merge.l1 (k + 1) y0 y1 y2 y3 y4))
 | 0 => ⟨fun _ _ _ _ _ _ r h => by simp [rides_Merge.l0] at h, fun _ _ _ _ _ r h => by simp [rides_Merge.l1] at h⟩
 | k + 1 => by
  obtain ⟨ih0, ih1⟩ := rides_Merge.mono_l k
  refine ⟨?_, ?_⟩
  ·intro y0 y1 y2 y3 y4 y5
   unfold rides_Merge.l0
   repeat' first
   | (with_reducible exact ih0 _ _ _ _ _ _)
   | (with_reducible exact ih1 _ _ _ _ _)
   | (with_reducible exact LeO.refl _)
   | (with_reducible exact LeO.none _)
   | (with_reducible refine LeO.ite ?_ ?_)
   | (with_reducible refine LeO.bind ?_ (fun _ => ?_))
   | exact ih0 _ _ _ _ _ _
   | exact ih1 _ _ _ _ _
   | exact LeO.none _
   | refine LeO.ite ?_ ?_
   | refine LeO.bind ?_ (fun _ => ?_)
  ·intro y0 y1 y2 y3 y4
   unfold rides_Merge.l1
   repeat' first
   | (with_reducible exact ih0 _ _ _ _ _ _)
   | (with_reducible exact ih1 _ _ _ _ _)
   | (with_reducible exact LeO.refl _)
   | (with_reducible exact LeO.none _)
   | (with_reducible refine LeO.ite ?_ ?_)
   | (with_reducible refine LeO.bind ?_ (fun _ => ?_))
   | exact ih0 _ _ _ _ _ _
   | exact ih1 _ _ _ _ _
   | exact LeO.none _
   | refine LeO.ite ?_ ?_
   | refine LeO.bind ?_ (fun _ => ?_)
theorem rides_Merge.mono : ∀ a0 a1 k, LeO (rides_Merge.f k a0 a1) (rides_Merge.f (k + 1) a0 a1) := by
 intro a0 a1 k
 obtain ⟨ih0, ih1⟩ := rides_Merge.mono_l k
 unfold rides_Merge.f
 repeat' first
   | (with_reducible exact ih0 _ _ _ _ _ _)
   | (with_reducible exact ih1 _ _ _ _ _)
   | (with_reducible exact LeO.refl _)
   | (with_reducible exact LeO.none _)
   | (with_reducible refine LeO.ite ?_ ?_)
   | (with_reducible refine LeO.bind ?_ (fun _ => ?_))
   | exact ih0 _ _ _ _ _ _
   | exact ih1 _ _ _ _ _
   | exact LeO.none _
   | refine LeO.ite ?_ ?_
   | refine LeO.bind ?_ (fun _ => ?_)
set_option maxHeartbeats 8000000 in
set_option maxRecDepth 100000 in
theorem rides_Merge.calls (k : Nat) (A0 : Option Addr) (c0 : Nat) (l0 : List (S28)) (A1 : Option Addr) (c1 : Nat) (l1 : List (S28)) (r1 : List (S28)) (r2 : Int) (w : World) (hr0 : Kd.C k28 w A0 l0.length l0) (hc0 : l0.length ≤ c0) (hr1 : Kd.C k28 w A1 l1.length l1) (hc1 : l1.length ≤ c1) (h : rides_Merge.f k l0 l1 = some (r1, r2)) :
  Calls Try.prog 18 #[.slice A0 l0.length c0, .slice A1 l1.length c1] w fun e w' => ∃ v0_ : Value, e = .returned (.tuple #[v0_, .int .i64 r2]) ∧ Kd.R k28 28 w' w.heap.size (fun _ => True) v0_ r1 ∧ Below w.heap.size w w' := by
 have hu28 := Try.underlying28
 have HR0 := Aside0.mk hr0
 have HC0 := Aside0.mk hc0
 clear hr0 hc0
 have HR1 := Aside0.mk hr1
 have HC1 := Aside0.mk hc1
 clear hr1 hc1
 have HB := Aside0.mk (Below.refl w.heap.size w)
 have H : (rides_Merge.l0 k l0 l1 ([] : List ((Int × Int) × S28)) l0 (l0.length : Int) 0) = some (r1, r2) := h
 clear h
 have H' := Aside0.mk H
 clear H
 go_enter Try.func18, Try.ntmps18
 go_wp2_with (((with_reducible refine Mp.gate_make (T := 50) rfl ?_); refine Mp.make_ev (K := 52) Mp.pk ev50 rfl rfl (by repeat (first | (with_reducible first | exact HB.out | apply below_alloc | apply pw_below_drewN | apply below_drew1) | exact HB.out)) ?_; intro mb_ w1_ hmb_ hb_ hm_; have n0_ := Aside0.mk hm_; clear HB; have HB := n0_; clear n0_ hm_ hb_ hmb_))
 go_loopg [17] k (fun kq v17 w' => ∃ (x6_1 : List ((Int × Int) × S28)) (x17_1 : Int), v17 = .int .i64 x17_1 ∧ Aside0 (rides_Merge.l0 kq l0 l1 x6_1 l0 (l0.length : Int) x17_1 = some (r1, r2)) ∧ Aside0 (kq ≤ k) ∧ Aside0 (Mp.BM Try.prog 52 Mp.pk ev50 mb_ x6_1 w w'))
 case atStart => exact ⟨(([] : List ((Int × Int) × S28))), (0), (by first | rfl | (simp; done) | (simp [*]; done)), H', ⟨Nat.le_refl _⟩, ⟨by repeat (first | (with_reducible first | exact HB.out | apply Mp.bm_alloc | apply Mp.bm_drewN | apply Mp.bm_drew1) | exact HB.out)⟩⟩
 case round =>
  clear H'
  try clear c1
  try clear p2
  obtain ⟨x6_1, x17_1, rfl, HA, HK1, HB⟩ := hrel
  cases gk with
  | zero => exact absurd HA.out (by simp [rides_Merge.l0])
  | succ k1 =>
   have H := HA.out
   clear HA
   simp only [rides_Merge.l0] at H
   by_cases c3 : x17_1 < (l0.length : Int)
   ·rw [if_pos c3] at H
    have c3b0 : decide (x17_1 < (l0.length : Int)) = true := decide_eq_true c3
    clear c3
    by_cases c4 : 0 ≤ x17_1
    ·rw [if_pos c4] at H
     have c4b0 : decide (0 ≤ x17_1) = true := decide_eq_true c4
     clear c4
     by_cases c5 : x17_1 < (l0.length : Int)
     ·rw [if_pos c5] at H
      have c5b0 : decide (x17_1 < (l0.length : Int)) = true := decide_eq_true c5
      clear c5
      replace H := Option.bind_eq_some_iff.mp H
      obtain ⟨⟨t136, t137⟩, A60, H⟩ := H
      replace H : (if Mp.inI64 t136 = true then (if Mp.inI64 t137 = true then (if x6_1.length < 4611686018427387904 then ((MAPPUT50.f).bind fun _ => (rides_Merge.l0 k1 l0 l1 (((t136, t137), (⟨(rd_T28 l0 x17_1).f0, (rd_T28 l0 x17_1).f1, (rd_T28 l0 x17_1).f2, (rd_T28 l0 x17_1).f3, (rd_T28 l0 x17_1).f4, (rd_T28 l0 x17_1).f5, (rd_T28 l0 x17_1).f6⟩ : S28)) :: x6_1) l0 (l0.length : Int) (wrap64 (x17_1 + 1)))) else (none)) else (none)) else (none)) = some (r1, r2) := H
      have A6 := Aside0.mk A60
      clear A60
      by_cases c7 : Mp.inI64 t136 = true
      ·rw [if_pos c7] at H
       have c7b0 := eq_true c7
       have c7b1 : decide (Mp.inI64 t136 = true) = true := decide_eq_true c7
       clear c7
       by_cases c8 : Mp.inI64 t137 = true
       ·rw [if_pos c8] at H
        have c8b0 := eq_true c8
        have c8b1 : decide (Mp.inI64 t137 = true) = true := decide_eq_true c8
        clear c8
        by_cases c9 : x6_1.length < 4611686018427387904
        ·rw [if_pos c9] at H
         have LMc9 := Aside0.mk c9
         clear c9
         replace H := Option.bind_eq_some_iff.mp H
         obtain ⟨_, A100, H⟩ := H
         replace H : (rides_Merge.l0 k1 l0 l1 (((t136, t137), (⟨(rd_T28 l0 x17_1).f0, (rd_T28 l0 x17_1).f1, (rd_T28 l0 x17_1).f2, (rd_T28 l0 x17_1).f3, (rd_T28 l0 x17_1).f4, (rd_T28 l0 x17_1).f5, (rd_T28 l0 x17_1).f6⟩ : S28)) :: x6_1) l0 (l0.length : Int) (wrap64 (x17_1 + 1))) = some (r1, r2) := H
         have A10 := Aside0.mk A100
         clear A100
         have H' := Aside0.mk H
         clear H
         have p134 : 0 ≤ (x17_1 : Int) := of_decide_eq_true (by first | (with_reducible assumption) | assumption)
         have q134 : x17_1 < (l0.length : Int) := of_decide_eq_true (by first | (with_reducible assumption) | assumption)
         obtain ⟨ad134, e134, hx134_0, hx134_1, hx134_2, hx134_3, hx134_4, hx134_5, hx134_6⟩ := at_T28 HR0.out x17_1 p134 q134
         cases e134
         replace hx134_0 := Mp.bm_cell HB.out hx134_0
         replace hx134_1 := Mp.bm_cell HB.out hx134_1
         replace hx134_2 := Mp.bm_cell HB.out hx134_2
         replace hx134_3 := Mp.bm_cell HB.out hx134_3
         replace hx134_4 := Mp.bm_cell HB.out hx134_4
         replace hx134_5 := Mp.bm_cell HB.out hx134_5
         replace hx134_6 := Mp.bm_cell HB.out hx134_6
         replace p134 := eq_true p134
         replace q134 := eq_true q134
         try go_wp2_with (first | ((with_reducible refine gate_dst (N := 8) rfl ?_); refine box_event ?hg (N := 8) ?hd (cs := #[.int .i64 0, .int .i64 0, .int .i64 0, .int .i64 0, .int .i64 0, .int .i64 0, .int .i64 0]) (t := 28) ?hr ?_; (case hd => rfl); (case hg => rfl); (case hr => first | (go_simp; done) | (go_simp; rfl)); intro gb135 hg w11 hbox hb; have nq_ := Aside0.mk (by rw [hg]; exact Nat.ne_of_lt (Mp.bm_lt (show Mp.BM Try.prog 52 Mp.pk ev50 mb_ x6_1 w _ from by repeat (first | (with_reducible first | exact HB.out | apply Mp.bm_alloc | apply Mp.bm_drewN | apply Mp.bm_drew1) | exact HB.out))) : mb_ ≠ gb135); have n0_ := Aside0.mk (Mp.bm_step (show Mp.BM Try.prog 52 Mp.pk ev50 mb_ x6_1 w _ from by repeat (first | (with_reducible first | exact HB.out | apply Mp.bm_alloc | apply Mp.bm_drewN | apply Mp.bm_drew1) | exact HB.out)) hb); have n1_ := Aside0.mk (hbox); have n2_ := Aside0.mk ((by rw [hg]; exact (Mp.bm_size (show Mp.BM Try.prog 52 Mp.pk ev50 mb_ x6_1 w _ from by repeat (first | (with_reducible first | exact HB.out | apply Mp.bm_alloc | apply Mp.bm_drewN | apply Mp.bm_drew1) | exact HB.out))) : w.heap.size ≤ gb135)); have n3_ := Aside0.mk ((by rw [hg]; exact (Mp.bm_size (show Mp.BM Try.prog 52 Mp.pk ev50 mb_ x6_1 w _ from by repeat (first | (with_reducible first | exact HB.out | apply Mp.bm_alloc | apply Mp.bm_drewN | apply Mp.bm_drew1) | exact HB.out))) : w.heap.size ≤ gb135)); clear HB; have HB := n0_; have BK135 := n1_; have GW135 := n2_; have GE135 := n3_; clear n0_ n1_ n2_ n3_; have NM135 := nq_; clear nq_; clear hb hbox hg; have hcz12_0 : w11.cell? ⟨gb135, 0, none⟩ = some (.int .i64 0) := (blk_cell BK135.out 0).trans rfl; have hcz12_1 : w11.cell? ⟨gb135, 1, none⟩ = some (.int .i64 0) := (blk_cell BK135.out 1).trans rfl; have hcz12_2 : w11.cell? ⟨gb135, 2, none⟩ = some (.int .i64 0) := (blk_cell BK135.out 2).trans rfl; have hcz12_3 : w11.cell? ⟨gb135, 3, none⟩ = some (.int .i64 0) := (blk_cell BK135.out 3).trans rfl; have hcz12_4 : w11.cell? ⟨gb135, 4, none⟩ = some (.int .i64 0) := (blk_cell BK135.out 4).trans rfl; have hcz12_5 : w11.cell? ⟨gb135, 5, none⟩ = some (.int .i64 0) := (blk_cell BK135.out 5).trans rfl; have hcz12_6 : w11.cell? ⟨gb135, 6, none⟩ = some (.int .i64 0) := (blk_cell BK135.out 6).trans rfl; have hfz12_0 := blk_frozen BK135.out 0; have hfz12_1 := blk_frozen BK135.out 1; have hfz12_2 := blk_frozen BK135.out 2; have hfz12_3 := blk_frozen BK135.out 3; have hfz12_4 := blk_frozen BK135.out 4; have hfz12_5 := blk_frozen BK135.out 5; have hfz12_6 := blk_frozen BK135.out 6))
         have n0_ : Aside0 ((((((((w11.setCell ⟨gb135, 0, none⟩ (.int .i64 ((rd_T28 l0 x17_1).f0))).setCell ⟨gb135, 1, none⟩ (.int .i64 ((rd_T28 l0 x17_1).f1))).setCell ⟨gb135, 2, none⟩ (.int .i64 ((rd_T28 l0 x17_1).f2))).setCell ⟨gb135, 3, none⟩ (.int .i64 ((rd_T28 l0 x17_1).f3))).setCell ⟨gb135, 4, none⟩ (.int .i64 ((rd_T28 l0 x17_1).f4))).setCell ⟨gb135, 5, none⟩ (.int .i64 ((rd_T28 l0 x17_1).f5))).setCell ⟨gb135, 6, none⟩ (.int .i64 ((rd_T28 l0 x17_1).f6))).heap[gb135]? = some (.cells #[.int .i64 ((rd_T28 l0 x17_1).f0), .int .i64 ((rd_T28 l0 x17_1).f1), .int .i64 ((rd_T28 l0 x17_1).f2), .int .i64 ((rd_T28 l0 x17_1).f3), .int .i64 ((rd_T28 l0 x17_1).f4), .int .i64 ((rd_T28 l0 x17_1).f5), .int .i64 ((rd_T28 l0 x17_1).f6)] 28 (0, 0))) := ⟨by (with_reducible repeat (first | refine blk_drewN ?_ _ | refine blk_drew ?_ | refine blk_alloc ?_ _)); refine blk_put (cs := #[.int .i64 ((rd_T28 l0 x17_1).f0), .int .i64 ((rd_T28 l0 x17_1).f1), .int .i64 ((rd_T28 l0 x17_1).f2), .int .i64 ((rd_T28 l0 x17_1).f3), .int .i64 ((rd_T28 l0 x17_1).f4), .int .i64 ((rd_T28 l0 x17_1).f5), .int .i64 0]) ?_ 6 _ rfl; (with_reducible repeat (first | refine blk_drewN ?_ _ | refine blk_drew ?_ | refine blk_alloc ?_ _)); refine blk_put (cs := #[.int .i64 ((rd_T28 l0 x17_1).f0), .int .i64 ((rd_T28 l0 x17_1).f1), .int .i64 ((rd_T28 l0 x17_1).f2), .int .i64 ((rd_T28 l0 x17_1).f3), .int .i64 ((rd_T28 l0 x17_1).f4), .int .i64 0, .int .i64 0]) ?_ 5 _ rfl; (with_reducible repeat (first | refine blk_drewN ?_ _ | refine blk_drew ?_ | refine blk_alloc ?_ _)); refine blk_put (cs := #[.int .i64 ((rd_T28 l0 x17_1).f0), .int .i64 ((rd_T28 l0 x17_1).f1), .int .i64 ((rd_T28 l0 x17_1).f2), .int .i64 ((rd_T28 l0 x17_1).f3), .int .i64 0, .int .i64 0, .int .i64 0]) ?_ 4 _ rfl; (with_reducible repeat (first | refine blk_drewN ?_ _ | refine blk_drew ?_ | refine blk_alloc ?_ _)); refine blk_put (cs := #[.int .i64 ((rd_T28 l0 x17_1).f0), .int .i64 ((rd_T28 l0 x17_1).f1), .int .i64 ((rd_T28 l0 x17_1).f2), .int .i64 0, .int .i64 0, .int .i64 0, .int .i64 0]) ?_ 3 _ rfl; (with_reducible repeat (first | refine blk_drewN ?_ _ | refine blk_drew ?_ | refine blk_alloc ?_ _)); refine blk_put (cs := #[.int .i64 ((rd_T28 l0 x17_1).f0), .int .i64 ((rd_T28 l0 x17_1).f1), .int .i64 0, .int .i64 0, .int .i64 0, .int .i64 0, .int .i64 0]) ?_ 2 _ rfl; (with_reducible repeat (first | refine blk_drewN ?_ _ | refine blk_drew ?_ | refine blk_alloc ?_ _)); refine blk_put (cs := #[.int .i64 ((rd_T28 l0 x17_1).f0), .int .i64 0, .int .i64 0, .int .i64 0, .int .i64 0, .int .i64 0, .int .i64 0]) ?_ 1 _ rfl; (with_reducible repeat (first | refine blk_drewN ?_ _ | refine blk_drew ?_ | refine blk_alloc ?_ _)); refine blk_put (cs := #[.int .i64 0, .int .i64 0, .int .i64 0, .int .i64 0, .int .i64 0, .int .i64 0, .int .i64 0]) ?_ 0 _ rfl; (with_reducible repeat (first | refine blk_drewN ?_ _ | refine blk_drew ?_ | refine blk_alloc ?_ _)); exact BK135.out⟩
         have n1_ : Aside0 (Mp.BM Try.prog 52 Mp.pk ev50 mb_ x6_1 w (((((((w11.setCell ⟨gb135, 0, none⟩ (.int .i64 ((rd_T28 l0 x17_1).f0))).setCell ⟨gb135, 1, none⟩ (.int .i64 ((rd_T28 l0 x17_1).f1))).setCell ⟨gb135, 2, none⟩ (.int .i64 ((rd_T28 l0 x17_1).f2))).setCell ⟨gb135, 3, none⟩ (.int .i64 ((rd_T28 l0 x17_1).f3))).setCell ⟨gb135, 4, none⟩ (.int .i64 ((rd_T28 l0 x17_1).f4))).setCell ⟨gb135, 5, none⟩ (.int .i64 ((rd_T28 l0 x17_1).f5))).setCell ⟨gb135, 6, none⟩ (.int .i64 ((rd_T28 l0 x17_1).f6)))) := ⟨by repeat (first | (with_reducible first | exact HB.out | apply Mp.bm_alloc | apply Mp.bm_drewN | apply Mp.bm_drew1 | refine Mp.bm_set ?_ GE135.out NM135.out) | exact HB.out)⟩
         (try clear BK135)
         (try clear HB)
         generalize (((((((w11.setCell ⟨gb135, 0, none⟩ (.int .i64 ((rd_T28 l0 x17_1).f0))).setCell ⟨gb135, 1, none⟩ (.int .i64 ((rd_T28 l0 x17_1).f1))).setCell ⟨gb135, 2, none⟩ (.int .i64 ((rd_T28 l0 x17_1).f2))).setCell ⟨gb135, 3, none⟩ (.int .i64 ((rd_T28 l0 x17_1).f3))).setCell ⟨gb135, 4, none⟩ (.int .i64 ((rd_T28 l0 x17_1).f4))).setCell ⟨gb135, 5, none⟩ (.int .i64 ((rd_T28 l0 x17_1).f5))).setCell ⟨gb135, 6, none⟩ (.int .i64 ((rd_T28 l0 x17_1).f6))) = w13 at n0_ n1_ ⊢
         have BK135 := n0_
         have HB := n1_
         clear n0_ n1_
         have n0_ := Aside0.mk (blk_drew BK135.out)
         have n1_ := Aside0.mk (Mp.bm_drew1 HB.out)
         clear BK135
         clear HB
         have BK135 := n0_
         have HB := n1_
         clear n0_ n1_
         refine start_ (n := 5) (S := fun w' => w'.cell? ⟨gb135, 0, none⟩ = some (.int .i64 ((rd_T28 l0 x17_1).f0)) ∧ w'.cell? ⟨gb135, 1, none⟩ = some (.int .i64 ((rd_T28 l0 x17_1).f1)) ∧ w'.cell? ⟨gb135, 2, none⟩ = some (.int .i64 ((rd_T28 l0 x17_1).f2)) ∧ w'.cell? ⟨gb135, 3, none⟩ = some (.int .i64 ((rd_T28 l0 x17_1).f3)) ∧ w'.cell? ⟨gb135, 4, none⟩ = some (.int .i64 ((rd_T28 l0 x17_1).f4)) ∧ w'.cell? ⟨gb135, 5, none⟩ = some (.int .i64 ((rd_T28 l0 x17_1).f5)) ∧ w'.cell? ⟨gb135, 6, none⟩ = some (.int .i64 ((rd_T28 l0 x17_1).f6))) (ds := []) #[false, false, false, false, false] (by kernel_rfl) rfl rfl ⟨(blk_cell BK135.out 0).trans rfl, (blk_cell BK135.out 1).trans rfl, (blk_cell BK135.out 2).trans rfl, (blk_cell BK135.out 3).trans rfl, (blk_cell BK135.out 4).trans rfl, (blk_cell BK135.out 5).trans rfl, (blk_cell BK135.out 6).trans rfl⟩ (fun hHeld => ?_)
         generalize w13.drew = w14 at BK135 HB hHeld ⊢
         refine pure_ (i := 0) (N := some 21) (v := ?_) (a' := ?_) #[true, false, false, false, false] rfl rfl (by kernel_rfl) (fun _ _ _ h => h) (Or.inl ⟨by rfl, ?_⟩) ?_ ?_
         rotate_left
         ·intro w'
          go_simp
          with_reducible rfl
         rotate_left
         ·simp only [Act.put, List.setIfInBounds_toArray, List.set_cons_zero, List.set_cons_succ, i64_w, i32_w]
          rfl
         refine take_ (i := 1) (N := some 22) (v := ?_) (a' := ?_) #[true, true, false, false, false] rfl rfl (by kernel_rfl) (fun _ _ _ h => h) (Or.inl ⟨by rfl, ?_⟩) hHeld ?_ ?_
         rotate_left
         ·rintro w' ⟨s0, s1, s2, s3, s4, s5, s6⟩
          go_simp
          with_reducible rfl
         rotate_left
         ·simp only [Act.put, List.setIfInBounds_toArray, List.set_cons_zero, List.set_cons_succ, i64_w, i32_w]
          rfl
         refine take_ (i := 3) (N := some 24) (v := ?_) (a' := ?_) #[true, true, false, true, false] rfl rfl (by kernel_rfl) (fun _ _ _ h => h) (Or.inl ⟨by rfl, ?_⟩) hHeld ?_ ?_
         rotate_left
         ·rintro w' ⟨s0, s1, s2, s3, s4, s5, s6⟩
          go_simp
          with_reducible rfl
         rotate_left
         ·simp only [Act.put, List.setIfInBounds_toArray, List.set_cons_zero, List.set_cons_succ, i64_w, i32_w]
          rfl
         refine one_ (i := 2) (N := some 23) #[true, true, true, true, false] rfl rfl (by kernel_rfl) (by decide) (fun K hK => ?_)
         refine goes_ Try.func32 (by kernel_rfl) rfl #[.agg #[.int .i64 ((rd_T28 l0 x17_1).f0), .int .i64 ((rd_T28 l0 x17_1).f1), .int .i64 ((rd_T28 l0 x17_1).f2), .int .i64 ((rd_T28 l0 x17_1).f3), .int .i64 ((rd_T28 l0 x17_1).f4), .int .i64 ((rd_T28 l0 x17_1).f5), .int .i64 ((rd_T28 l0 x17_1).f6)]] (by rfl) rfl rfl (by (try simp only [List.map_toArray, List.map_cons, List.map_nil]); first | done | rfl | (simp only [List.length_drop, List.length_take]; rfl)) ?_
         with_reducible refine (rides_keyOf.calls ((rd_T28 l0 x17_1).f0) ((rd_T28 l0 x17_1).f1) ((rd_T28 l0 x17_1).f2) ((rd_T28 l0 x17_1).f3) ((rd_T28 l0 x17_1).f4) ((rd_T28 l0 x17_1).f5) ((rd_T28 l0 x17_1).f6) t136 t137 _ A6.out).mono ?_
         rintro e w15 ⟨rfl, hb⟩
         refine ⟨_, rfl, ?_⟩
         have n0_ := Aside0.mk (blk_below (g := gb135) (o := .cells #[.int .i64 ((rd_T28 l0 x17_1).f0), .int .i64 ((rd_T28 l0 x17_1).f1), .int .i64 ((rd_T28 l0 x17_1).f2), .int .i64 ((rd_T28 l0 x17_1).f3), .int .i64 ((rd_T28 l0 x17_1).f4), .int .i64 ((rd_T28 l0 x17_1).f5), .int .i64 ((rd_T28 l0 x17_1).f6)] 28 (0, 0)) (by (with_reducible repeat (first | refine blk_drewN ?_ _ | refine blk_drew ?_ | refine blk_alloc ?_ _)); exact BK135.out) hb)
         have n1_ := Aside0.mk (Mp.bm_step (show Mp.BM Try.prog 52 Mp.pk ev50 mb_ x6_1 w _ from by repeat (first | (with_reducible first | exact HB.out | apply Mp.bm_alloc | apply Mp.bm_drewN | apply Mp.bm_drew1 | refine Mp.bm_set ?_ GE135.out NM135.out) | exact HB.out)) hb)
         clear BK135
         clear HB
         have BK135 := n0_
         have HB := n1_
         clear n0_ n1_
         (try clear hb)
         (try clear hb2)
         (try clear hk)
         (try clear hi)
         refine hK.out _ _ ⟨(blk_cell BK135.out 0).trans rfl, (blk_cell BK135.out 1).trans rfl, (blk_cell BK135.out 2).trans rfl, (blk_cell BK135.out 3).trans rfl, (blk_cell BK135.out 4).trans rfl, (blk_cell BK135.out 5).trans rfl, (blk_cell BK135.out 6).trans rfl⟩ (fun hHeld => ?_)
         clear hK K
         refine norm_ (a' := ?_) ?_ ?_
         rotate_left
         ·show Act.put _ (some 23) _ = _
          simp only [Act.put, List.setIfInBounds_toArray, List.set_cons_zero, List.set_cons_succ, i64_w, i32_w]
          rfl
         refine one_ (i := 4) (N := none) #[true, true, true, true, true] rfl rfl (by kernel_rfl) (by decide) (fun K hK => ?_)
         refine Mp.store_step (enc := Mp.pk) (venc := ev50) (by rfl) _ _ _ rfl keyed50 Try.underlying50 rfl (by repeat (first | (with_reducible first | exact HB.out | apply Mp.bm_alloc | apply Mp.bm_drewN | apply Mp.bm_drew1 | refine Mp.bm_set ?_ GE135.out NM135.out) | exact HB.out)) (by have := LMc9.out; omega) _ _ rfl rfl (keyof50 (of_eq_true (by assumption)) (of_eq_true (by assumption))) Mp.pk_inj ?_
         intro w16 hm_ hg_
         have n0_ := Aside0.mk (blk_grown (g := gb135) (o := .cells #[.int .i64 ((rd_T28 l0 x17_1).f0), .int .i64 ((rd_T28 l0 x17_1).f1), .int .i64 ((rd_T28 l0 x17_1).f2), .int .i64 ((rd_T28 l0 x17_1).f3), .int .i64 ((rd_T28 l0 x17_1).f4), .int .i64 ((rd_T28 l0 x17_1).f5), .int .i64 ((rd_T28 l0 x17_1).f6)] 28 (0, 0)) (by (with_reducible repeat (first | refine blk_drewN ?_ _ | refine blk_drew ?_ | refine blk_alloc ?_ _)); exact BK135.out) hg_ (fun e_ => NM135.out (Option.some.inj e_).symm))
         have n1_ := Aside0.mk hm_
         clear hm_
         clear BK135
         clear HB
         have BK135 := n0_
         have HB := n1_
         clear n0_ n1_
         (try clear hb)
         (try clear hb2)
         (try clear hk)
         (try clear hi)
         refine hK.out _ _ ⟨(blk_cell BK135.out 0).trans rfl, (blk_cell BK135.out 1).trans rfl, (blk_cell BK135.out 2).trans rfl, (blk_cell BK135.out 3).trans rfl, (blk_cell BK135.out 4).trans rfl, (blk_cell BK135.out 5).trans rfl, (blk_cell BK135.out 6).trans rfl⟩ (fun hHeld => ?_)
         clear hK K
         refine done_ (by kernel_rfl) ?_
         try go_wp2
         go_roundg k1
         case measure => have := HK1.out; omega
         case rel => exact ⟨((((t136, t137), (⟨(rd_T28 l0 x17_1).f0, (rd_T28 l0 x17_1).f1, (rd_T28 l0 x17_1).f2, (rd_T28 l0 x17_1).f3, (rd_T28 l0 x17_1).f4, (rd_T28 l0 x17_1).f5, (rd_T28 l0 x17_1).f6⟩ : S28)) :: x6_1)), (wrap64 (x17_1 + 1)), (by first | rfl | (simp; done) | (simp [*]; done)), H', ⟨by have := HK1.out; omega⟩, ⟨by repeat (first | (with_reducible first | exact HB.out | apply Mp.bm_alloc | apply Mp.bm_drewN | apply Mp.bm_drew1 | refine Mp.bm_set ?_ GE135.out NM135.out) | exact HB.out)⟩⟩
        ·rw [if_neg c9] at H
         exact absurd H (by simp)
       ·rw [if_neg c8] at H
        exact absurd H (by simp)
      ·rw [if_neg c7] at H
       exact absurd H (by simp)
     ·rw [if_neg c5] at H
      exact absurd H (by simp)
    ·rw [if_neg c4] at H
     exact absurd H (by simp)
   ·rw [if_neg c3] at H
    have c3b0 : decide (x17_1 < (l0.length : Int)) = false := decide_eq_false c3
    clear c3
    replace H := Option.bind_eq_some_iff.mp H
    obtain ⟨t138, A170, H⟩ := H
    replace H : (rides_Merge.l1 k1 x6_1 t138 l1 (l1.length : Int) 0) = some (r1, r2) := H
    have A17 := Aside0.mk A170
    clear A170
    have H' := Aside0.mk H
    clear H
    go_wp2_with (first | ((with_reducible refine gate_callee (f := 33) rfl ?_); refine goesL_ (some 27) rfl rfl Try.func33 (by kernel_rfl) rfl #[.slice A0 l0.length c0] rfl (by (try simp only [List.map_toArray, List.map_cons, List.map_nil]); first | done | rfl | (simp only [List.length_drop, List.length_take]; rfl)) ?_; (with_reducible refine (api_Ride_33.calls _ _ l0 t138 _ ?side1 ?side2 A17.out).mono ?_); (case side1 => repeat (first | exact (Kd.C_below HR0.out HB.out.b) | (with_reducible refine Kd.C_alloc ?_ _) | (with_reducible refine Kd.C_drewN ?_ _) | (with_reducible refine Kd.C_drew ?_))); (case side2 => exact HC0.out); rintro e w18 ⟨v139, rfl, ho0, hb⟩; refine ⟨_, rfl, ?_⟩; have n0_ := Aside0.mk (Kd.R_lower ho0 (Mp.bm_size (show Mp.BM Try.prog 52 Mp.pk ev50 mb_ x6_1 w _ from by repeat (first | (with_reducible first | exact HB.out | apply Mp.bm_alloc | apply Mp.bm_drewN | apply Mp.bm_drew1) | exact HB.out)))); have n1_ := Aside0.mk (Mp.bm_step (show Mp.BM Try.prog 52 Mp.pk ev50 mb_ x6_1 w _ from by repeat (first | (with_reducible first | exact HB.out | apply Mp.bm_alloc | apply Mp.bm_drewN | apply Mp.bm_drew1) | exact HB.out)) hb); clear HB; have HO140 := n0_; have HB := n1_; clear n0_ n1_; (try clear hb); (try clear hb2); (try clear hk); (try clear hi); (try clear ho0)))
    go_loopg [9, 30] k1 (fun kq v9 v30 w' => ∃ (x9_2 : List (S28)) (x30_2 : Int), v30 = .int .i64 x30_2 ∧ Aside0 (rides_Merge.l1 kq x6_1 x9_2 l1 (l1.length : Int) x30_2 = some (r1, r2)) ∧ Aside0 (kq ≤ k1) ∧ Aside0 (Kd.R k28 28 w' w.heap.size (fun _ => True) v9 x9_2) ∧ Aside0 (Mp.BM Try.prog 52 Mp.pk ev50 mb_ x6_1 w w'))
    case atStart => exact ⟨(t138), (0), (by first | rfl | (simp; done) | (simp [*]; done)), H', ⟨Nat.le_refl _⟩, ⟨by (with_reducible repeat (first | apply Kd.R_alloc | apply Kd.R_drewN | apply Kd.R_drew)); exact HO140.out⟩, ⟨by repeat (first | (with_reducible first | exact HB.out | apply Mp.bm_alloc | apply Mp.bm_drewN | apply Mp.bm_drew1) | exact HB.out)⟩⟩
    case round =>
     clear H'
     try clear c1
     try clear p1
     try clear q1
     try clear hx1
     try clear p2
     try clear c3
     try clear c3b0
     try clear c4
     try clear c4b0
     try clear c5
     try clear c5b0
     try clear p6
     try clear c7
     try clear c7b0
     try clear c7b1
     try clear c8
     try clear c8b0
     try clear c8b1
     try clear c9
     try clear p13
     try clear q13
     try clear hx13
     try clear c18
     try clear hcz12_0
     try clear hcz12_1
     try clear hcz12_2
     try clear hcz12_3
     try clear hcz12_4
     try clear hcz12_5
     try clear hcz12_6
     try clear hfz12_0
     try clear hfz12_1
     try clear hfz12_2
     try clear hfz12_3
     try clear hfz12_4
     try clear hfz12_5
     try clear hfz12_6
     try clear hx134_0
     try clear hx134_1
     try clear hx134_2
     try clear hx134_3
     try clear hx134_4
     try clear hx134_5
     try clear hx134_6
     try clear p134
     try clear p2
     try clear q134
     obtain ⟨x9_2, x30_2, rfl, HA, HK2, HO_9, HB⟩ := hrel
     cases gk with
     | zero => exact absurd HA.out (by simp [rides_Merge.l1])
     | succ k2 =>
      have H := HA.out
      clear HA
      simp only [rides_Merge.l1] at H
      by_cases c19 : x30_2 < (l1.length : Int)
      ·rw [if_pos c19] at H
       have c19b0 : decide (x30_2 < (l1.length : Int)) = true := decide_eq_true c19
       clear c19
       by_cases c20 : 0 ≤ x30_2
       ·rw [if_pos c20] at H
        have c20b0 : decide (0 ≤ x30_2) = true := decide_eq_true c20
        clear c20
        by_cases c21 : x30_2 < (l1.length : Int)
        ·rw [if_pos c21] at H
         have c21b0 : decide (x30_2 < (l1.length : Int)) = true := decide_eq_true c21
         clear c21
         replace H := Option.bind_eq_some_iff.mp H
         obtain ⟨⟨t144, t145⟩, A220, H⟩ := H
         replace H : (if Mp.inI64 t144 = true then (if Mp.inI64 t145 = true then (if (Mp.look (t144, t145) x6_1).isSome = true then (if (!((((Mp.look (t144, t145) x6_1).getD z28).f0) == ((rd_T28 l1 x30_2).f0)) || (!((((Mp.look (t144, t145) x6_1).getD z28).f1) == ((rd_T28 l1 x30_2).f1)) || (!((((Mp.look (t144, t145) x6_1).getD z28).f2) == ((rd_T28 l1 x30_2).f2)) || (!((((Mp.look (t144, t145) x6_1).getD z28).f3) == ((rd_T28 l1 x30_2).f3)) || (!((((Mp.look (t144, t145) x6_1).getD z28).f4) == ((rd_T28 l1 x30_2).f4)) || (!((((Mp.look (t144, t145) x6_1).getD z28).f5) == ((rd_T28 l1 x30_2).f5)) || (!((((Mp.look (t144, t145) x6_1).getD z28).f6) == ((rd_T28 l1 x30_2).f6))))))))) = true then (some (([] : List (S28)), 15)) else (rides_Merge.l1 k2 x6_1 x9_2 l1 (l1.length : Int) (wrap64 (x30_2 + 1)))) else (if x9_2.length < 2513169434916 then (rides_Merge.l1 k2 x6_1 (x9_2 ++ [(⟨(rd_T28 l1 x30_2).f0, (rd_T28 l1 x30_2).f1, (rd_T28 l1 x30_2).f2, (rd_T28 l1 x30_2).f3, (rd_T28 l1 x30_2).f4, (rd_T28 l1 x30_2).f5, (rd_T28 l1 x30_2).f6⟩ : S28)]) l1 (l1.length : Int) (wrap64 (x30_2 + 1))) else (none))) else (none)) else (none)) = some (r1, r2) := H
         have A22 := Aside0.mk A220
         clear A220
         by_cases c23 : Mp.inI64 t144 = true
         ·rw [if_pos c23] at H
          have c23b0 := eq_true c23
          have c23b1 : decide (Mp.inI64 t144 = true) = true := decide_eq_true c23
          clear c23
          by_cases c24 : Mp.inI64 t145 = true
          ·rw [if_pos c24] at H
           have c24b0 := eq_true c24
           have c24b1 : decide (Mp.inI64 t145 = true) = true := decide_eq_true c24
           clear c24
           by_cases c25 : (Mp.look (t144, t145) x6_1).isSome = true
           ·rw [if_pos c25] at H
            have c25b0 : (Mp.look (t144, t145) x6_1).isSome = true := c25
            clear c25
            by_cases c26 : (!((((Mp.look (t144, t145) x6_1).getD z28).f0) == ((rd_T28 l1 x30_2).f0)) || (!((((Mp.look (t144, t145) x6_1).getD z28).f1) == ((rd_T28 l1 x30_2).f1)) || (!((((Mp.look (t144, t145) x6_1).getD z28).f2) == ((rd_T28 l1 x30_2).f2)) || (!((((Mp.look (t144, t145) x6_1).getD z28).f3) == ((rd_T28 l1 x30_2).f3)) || (!((((Mp.look (t144, t145) x6_1).getD z28).f4) == ((rd_T28 l1 x30_2).f4)) || (!((((Mp.look (t144, t145) x6_1).getD z28).f5) == ((rd_T28 l1 x30_2).f5)) || (!((((Mp.look (t144, t145) x6_1).getD z28).f6) == ((rd_T28 l1 x30_2).f6))))))))) = true
            ·rw [if_pos c26] at H
             have c26b0 : (!((((Mp.look (t144, t145) x6_1).getD z28).f0) == ((rd_T28 l1 x30_2).f0)) || (!((((Mp.look (t144, t145) x6_1).getD z28).f1) == ((rd_T28 l1 x30_2).f1)) || (!((((Mp.look (t144, t145) x6_1).getD z28).f2) == ((rd_T28 l1 x30_2).f2)) || (!((((Mp.look (t144, t145) x6_1).getD z28).f3) == ((rd_T28 l1 x30_2).f3)) || (!((((Mp.look (t144, t145) x6_1).getD z28).f4) == ((rd_T28 l1 x30_2).f4)) || (!((((Mp.look (t144, t145) x6_1).getD z28).f5) == ((rd_T28 l1 x30_2).f5)) || (!((((Mp.look (t144, t145) x6_1).getD z28).f6) == ((rd_T28 l1 x30_2).f6))))))))) = true := c26
             clear c26
             simp only [Option.some.injEq, Prod.mk.injEq] at H
             obtain ⟨rfl, rfl⟩ := H
             have p142 : 0 ≤ (x30_2 : Int) := of_decide_eq_true (by first | (with_reducible assumption) | assumption)
             have q142 : x30_2 < (l1.length : Int) := of_decide_eq_true (by first | (with_reducible assumption) | assumption)
             obtain ⟨ad142, e142, hx142_0, hx142_1, hx142_2, hx142_3, hx142_4, hx142_5, hx142_6⟩ := at_T28 HR1.out x30_2 p142 q142
             cases e142
             replace hx142_0 := Mp.bm_cell HB.out hx142_0
             replace hx142_1 := Mp.bm_cell HB.out hx142_1
             replace hx142_2 := Mp.bm_cell HB.out hx142_2
             replace hx142_3 := Mp.bm_cell HB.out hx142_3
             replace hx142_4 := Mp.bm_cell HB.out hx142_4
             replace hx142_5 := Mp.bm_cell HB.out hx142_5
             replace hx142_6 := Mp.bm_cell HB.out hx142_6
             replace p142 := eq_true p142
             replace q142 := eq_true q142
             go_wp2_with (first | ((with_reducible refine Mp.gate_look rfl ?_); refine Mp.look_ok_some (enc := Mp.pk) (venc := ev50) rfl _ _ rfl keyed50 Try.underlying50 zeroE50 rfl (by repeat (first | (with_reducible first | exact HB.out | apply Mp.bm_alloc | apply Mp.bm_drewN | apply Mp.bm_drew1 | refine Mp.bm_set ?_ GE143.out NM143.out | refine Mp.bm_set ?_ GE146.out NM146.out) | exact HB.out)) (t144, t145) rfl (keyof50 (of_eq_true (by assumption)) (of_eq_true (by assumption))) c25b0 z28 ?_; simp only [ev50]) | ((with_reducible refine gate_dst (N := 11) rfl ?_); refine box_event ?hg (N := 11) ?hd (cs := #[.int .i64 0, .int .i64 0, .int .i64 0, .int .i64 0, .int .i64 0, .int .i64 0, .int .i64 0]) (t := 28) ?hr ?_; (case hd => rfl); (case hg => rfl); (case hr => first | (go_simp; done) | (go_simp; rfl)); intro gb143 hg w27 hbox hb; have nq_ := Aside0.mk (by rw [hg]; exact Nat.ne_of_lt (Mp.bm_lt (show Mp.BM Try.prog 52 Mp.pk ev50 mb_ x6_1 w _ from by repeat (first | (with_reducible first | exact HB.out | apply Mp.bm_alloc | apply Mp.bm_drewN | apply Mp.bm_drew1) | exact HB.out))) : mb_ ≠ gb143); have n0_ := Aside0.mk (Kd.R_below (Kd.R_elderB (by (with_reducible repeat (first | apply Kd.R_alloc | apply Kd.R_drewN | apply Kd.R_drew)); exact HO_9.out) gb143 (Nat.le_of_eq hg.symm)) hb); have n1_ := Aside0.mk (Mp.bm_step (show Mp.BM Try.prog 52 Mp.pk ev50 mb_ x6_1 w _ from by repeat (first | (with_reducible first | exact HB.out | apply Mp.bm_alloc | apply Mp.bm_drewN | apply Mp.bm_drew1) | exact HB.out)) hb); have n2_ := Aside0.mk (hbox); have n3_ := Aside0.mk ((by rw [hg]; exact (Mp.bm_size (show Mp.BM Try.prog 52 Mp.pk ev50 mb_ x6_1 w _ from by repeat (first | (with_reducible first | exact HB.out | apply Mp.bm_alloc | apply Mp.bm_drewN | apply Mp.bm_drew1) | exact HB.out))) : w.heap.size ≤ gb143)); have n4_ := Aside0.mk ((by rw [hg]; exact (Mp.bm_size (show Mp.BM Try.prog 52 Mp.pk ev50 mb_ x6_1 w _ from by repeat (first | (with_reducible first | exact HB.out | apply Mp.bm_alloc | apply Mp.bm_drewN | apply Mp.bm_drew1) | exact HB.out))) : w.heap.size ≤ gb143)); clear HO_9; clear HB; have HO_9 := n0_; have HB := n1_; have BK143 := n2_; have GW143 := n3_; have GE143 := n4_; clear n0_ n1_ n2_ n3_ n4_; have NM143 := nq_; clear nq_; clear hb hbox hg; have hcz28_0 : w27.cell? ⟨gb143, 0, none⟩ = some (.int .i64 0) := (blk_cell BK143.out 0).trans rfl; have hcz28_1 : w27.cell? ⟨gb143, 1, none⟩ = some (.int .i64 0) := (blk_cell BK143.out 1).trans rfl; have hcz28_2 : w27.cell? ⟨gb143, 2, none⟩ = some (.int .i64 0) := (blk_cell BK143.out 2).trans rfl; have hcz28_3 : w27.cell? ⟨gb143, 3, none⟩ = some (.int .i64 0) := (blk_cell BK143.out 3).trans rfl; have hcz28_4 : w27.cell? ⟨gb143, 4, none⟩ = some (.int .i64 0) := (blk_cell BK143.out 4).trans rfl; have hcz28_5 : w27.cell? ⟨gb143, 5, none⟩ = some (.int .i64 0) := (blk_cell BK143.out 5).trans rfl; have hcz28_6 : w27.cell? ⟨gb143, 6, none⟩ = some (.int .i64 0) := (blk_cell BK143.out 6).trans rfl; have hfz28_0 := blk_frozen BK143.out 0; have hfz28_1 := blk_frozen BK143.out 1; have hfz28_2 := blk_frozen BK143.out 2; have hfz28_3 := blk_frozen BK143.out 3; have hfz28_4 := blk_frozen BK143.out 4; have hfz28_5 := blk_frozen BK143.out 5; have hfz28_6 := blk_frozen BK143.out 6) | ((with_reducible refine gate_callee (f := 32) rfl ?_); refine goesL_ (some 37) rfl rfl Try.func32 (by kernel_rfl) rfl #[.agg #[.int .i64 ((rd_T28 l1 x30_2).f0), .int .i64 ((rd_T28 l1 x30_2).f1), .int .i64 ((rd_T28 l1 x30_2).f2), .int .i64 ((rd_T28 l1 x30_2).f3), .int .i64 ((rd_T28 l1 x30_2).f4), .int .i64 ((rd_T28 l1 x30_2).f5), .int .i64 ((rd_T28 l1 x30_2).f6)]] rfl (by (try simp only [List.map_toArray, List.map_cons, List.map_nil]); first | done | rfl | (simp only [List.length_drop, List.length_take]; rfl)) ?_; (with_reducible refine (rides_keyOf.calls ((rd_T28 l1 x30_2).f0) ((rd_T28 l1 x30_2).f1) ((rd_T28 l1 x30_2).f2) ((rd_T28 l1 x30_2).f3) ((rd_T28 l1 x30_2).f4) ((rd_T28 l1 x30_2).f5) ((rd_T28 l1 x30_2).f6) t144 t145 _ A22.out).mono ?_); rintro e w29 ⟨rfl, hb⟩; refine ⟨_, rfl, ?_⟩; have n0_ := Aside0.mk (Kd.R_below (by (with_reducible repeat (first | apply Kd.R_alloc | apply Kd.R_drewN | apply Kd.R_drew)); exact (Kd.R_mono (Kd.R_far (p := ⟨gb143, 6, none⟩) (Kd.R_far (p := ⟨gb143, 5, none⟩) (Kd.R_far (p := ⟨gb143, 4, none⟩) (Kd.R_far (p := ⟨gb143, 3, none⟩) (Kd.R_far (p := ⟨gb143, 2, none⟩) (Kd.R_far (p := ⟨gb143, 1, none⟩) (Kd.R_far (p := ⟨gb143, 0, none⟩) (Kd.R_mono HO_9.out (fun k_ hk => (⟨hk, hk.2⟩ : _ ∧ k_ ≠ gb143))) (fun _ hk => hk.2) (.int .i64 ((rd_T28 l1 x30_2).f0))) (fun _ hk => hk.2) (.int .i64 ((rd_T28 l1 x30_2).f1))) (fun _ hk => hk.2) (.int .i64 ((rd_T28 l1 x30_2).f2))) (fun _ hk => hk.2) (.int .i64 ((rd_T28 l1 x30_2).f3))) (fun _ hk => hk.2) (.int .i64 ((rd_T28 l1 x30_2).f4))) (fun _ hk => hk.2) (.int .i64 ((rd_T28 l1 x30_2).f5))) (fun _ hk => hk.2) (.int .i64 ((rd_T28 l1 x30_2).f6))) (fun _ h_ => h_.1))) hb); have n1_ := Aside0.mk (blk_below (g := gb143) (o := .cells #[.int .i64 ((rd_T28 l1 x30_2).f0), .int .i64 ((rd_T28 l1 x30_2).f1), .int .i64 ((rd_T28 l1 x30_2).f2), .int .i64 ((rd_T28 l1 x30_2).f3), .int .i64 ((rd_T28 l1 x30_2).f4), .int .i64 ((rd_T28 l1 x30_2).f5), .int .i64 ((rd_T28 l1 x30_2).f6)] 28 (0, 0)) (by (with_reducible repeat (first | refine blk_drewN ?_ _ | refine blk_drew ?_ | refine blk_alloc ?_ _)); refine blk_put (cs := #[.int .i64 ((rd_T28 l1 x30_2).f0), .int .i64 ((rd_T28 l1 x30_2).f1), .int .i64 ((rd_T28 l1 x30_2).f2), .int .i64 ((rd_T28 l1 x30_2).f3), .int .i64 ((rd_T28 l1 x30_2).f4), .int .i64 ((rd_T28 l1 x30_2).f5), .int .i64 0]) ?_ 6 _ rfl; (with_reducible repeat (first | refine blk_drewN ?_ _ | refine blk_drew ?_ | refine blk_alloc ?_ _)); refine blk_put (cs := #[.int .i64 ((rd_T28 l1 x30_2).f0), .int .i64 ((rd_T28 l1 x30_2).f1), .int .i64 ((rd_T28 l1 x30_2).f2), .int .i64 ((rd_T28 l1 x30_2).f3), .int .i64 ((rd_T28 l1 x30_2).f4), .int .i64 0, .int .i64 0]) ?_ 5 _ rfl; (with_reducible repeat (first | refine blk_drewN ?_ _ | refine blk_drew ?_ | refine blk_alloc ?_ _)); refine blk_put (cs := #[.int .i64 ((rd_T28 l1 x30_2).f0), .int .i64 ((rd_T28 l1 x30_2).f1), .int .i64 ((rd_T28 l1 x30_2).f2), .int .i64 ((rd_T28 l1 x30_2).f3), .int .i64 0, .int .i64 0, .int .i64 0]) ?_ 4 _ rfl; (with_reducible repeat (first | refine blk_drewN ?_ _ | refine blk_drew ?_ | refine blk_alloc ?_ _)); refine blk_put (cs := #[.int .i64 ((rd_T28 l1 x30_2).f0), .int .i64 ((rd_T28 l1 x30_2).f1), .int .i64 ((rd_T28 l1 x30_2).f2), .int .i64 0, .int .i64 0, .int .i64 0, .int .i64 0]) ?_ 3 _ rfl; (with_reducible repeat (first | refine blk_drewN ?_ _ | refine blk_drew ?_ | refine blk_alloc ?_ _)); refine blk_put (cs := #[.int .i64 ((rd_T28 l1 x30_2).f0), .int .i64 ((rd_T28 l1 x30_2).f1), .int .i64 0, .int .i64 0, .int .i64 0, .int .i64 0, .int .i64 0]) ?_ 2 _ rfl; (with_reducible repeat (first | refine blk_drewN ?_ _ | refine blk_drew ?_ | refine blk_alloc ?_ _)); refine blk_put (cs := #[.int .i64 ((rd_T28 l1 x30_2).f0), .int .i64 0, .int .i64 0, .int .i64 0, .int .i64 0, .int .i64 0, .int .i64 0]) ?_ 1 _ rfl; (with_reducible repeat (first | refine blk_drewN ?_ _ | refine blk_drew ?_ | refine blk_alloc ?_ _)); refine blk_put (cs := #[.int .i64 0, .int .i64 0, .int .i64 0, .int .i64 0, .int .i64 0, .int .i64 0, .int .i64 0]) ?_ 0 _ rfl; (with_reducible repeat (first | refine blk_drewN ?_ _ | refine blk_drew ?_ | refine blk_alloc ?_ _)); exact BK143.out) hb); have n2_ := Aside0.mk (Mp.bm_step (show Mp.BM Try.prog 52 Mp.pk ev50 mb_ x6_1 w _ from by repeat (first | (with_reducible first | exact HB.out | apply Mp.bm_alloc | apply Mp.bm_drewN | apply Mp.bm_drew1 | refine Mp.bm_set ?_ GE143.out NM143.out) | exact HB.out)) hb); clear HO_9; clear BK143; clear HB; have HO_9 := n0_; have BK143 := n1_; have HB := n2_; clear n0_ n1_ n2_; (try clear hb); (try clear hb2); (try clear hk); (try clear hi)) | ((with_reducible refine gate_dst (N := 12) rfl ?_); refine box_event ?hg (N := 12) ?hd (cs := #[.int .i64 0, .int .i64 0, .int .i64 0, .int .i64 0, .int .i64 0, .int .i64 0, .int .i64 0]) (t := 28) ?hr ?_; (case hd => rfl); (case hg => rfl); (case hr => first | (go_simp; done) | (go_simp; rfl)); intro gb146 hg w30 hbox hb; have nq_ := Aside0.mk (by rw [hg]; exact Nat.ne_of_lt (Mp.bm_lt (show Mp.BM Try.prog 52 Mp.pk ev50 mb_ x6_1 w _ from by repeat (first | (with_reducible first | exact HB.out | apply Mp.bm_alloc | apply Mp.bm_drewN | apply Mp.bm_drew1) | exact HB.out))) : mb_ ≠ gb146); have n0_ := Aside0.mk (Kd.R_below (Kd.R_elderB (by (with_reducible repeat (first | apply Kd.R_alloc | apply Kd.R_drewN | apply Kd.R_drew)); exact HO_9.out) gb146 (Nat.le_of_eq hg.symm)) hb); have n1_ := Aside0.mk (blk_below (g := gb143) (o := .cells #[.int .i64 ((rd_T28 l1 x30_2).f0), .int .i64 ((rd_T28 l1 x30_2).f1), .int .i64 ((rd_T28 l1 x30_2).f2), .int .i64 ((rd_T28 l1 x30_2).f3), .int .i64 ((rd_T28 l1 x30_2).f4), .int .i64 ((rd_T28 l1 x30_2).f5), .int .i64 ((rd_T28 l1 x30_2).f6)] 28 (0, 0)) (by (with_reducible repeat (first | refine blk_drewN ?_ _ | refine blk_drew ?_ | refine blk_alloc ?_ _)); exact BK143.out) hb); have n2_ := Aside0.mk (Mp.bm_step (show Mp.BM Try.prog 52 Mp.pk ev50 mb_ x6_1 w _ from by repeat (first | (with_reducible first | exact HB.out | apply Mp.bm_alloc | apply Mp.bm_drewN | apply Mp.bm_drew1 | refine Mp.bm_set ?_ GE143.out NM143.out) | exact HB.out)) hb); have n3_ := Aside0.mk (hbox); have n4_ := Aside0.mk ((by rw [hg]; exact (Mp.bm_size (show Mp.BM Try.prog 52 Mp.pk ev50 mb_ x6_1 w _ from by repeat (first | (with_reducible first | exact HB.out | apply Mp.bm_alloc | apply Mp.bm_drewN | apply Mp.bm_drew1 | refine Mp.bm_set ?_ GE143.out NM143.out) | exact HB.out))) : w.heap.size ≤ gb146)); have n5_ := Aside0.mk ((by rw [hg]; exact (Mp.bm_size (show Mp.BM Try.prog 52 Mp.pk ev50 mb_ x6_1 w _ from by repeat (first | (with_reducible first | exact HB.out | apply Mp.bm_alloc | apply Mp.bm_drewN | apply Mp.bm_drew1 | refine Mp.bm_set ?_ GE143.out NM143.out) | exact HB.out))) : w.heap.size ≤ gb146)); have n6_ := Aside0.mk ((by rw [hg]; exact Nat.ne_of_lt (blk_lt (g := gb143) (o := .cells #[.int .i64 ((rd_T28 l1 x30_2).f0), .int .i64 ((rd_T28 l1 x30_2).f1), .int .i64 ((rd_T28 l1 x30_2).f2), .int .i64 ((rd_T28 l1 x30_2).f3), .int .i64 ((rd_T28 l1 x30_2).f4), .int .i64 ((rd_T28 l1 x30_2).f5), .int .i64 ((rd_T28 l1 x30_2).f6)] 28 (0, 0)) (by (with_reducible repeat (first | refine blk_drewN ?_ _ | refine blk_drew ?_ | refine blk_alloc ?_ _)); exact BK143.out)) : gb143 ≠ gb146)); have n7_ := Aside0.mk ((by rw [hg]; exact Nat.ne_of_gt (blk_lt (g := gb143) (o := .cells #[.int .i64 ((rd_T28 l1 x30_2).f0), .int .i64 ((rd_T28 l1 x30_2).f1), .int .i64 ((rd_T28 l1 x30_2).f2), .int .i64 ((rd_T28 l1 x30_2).f3), .int .i64 ((rd_T28 l1 x30_2).f4), .int .i64 ((rd_T28 l1 x30_2).f5), .int .i64 ((rd_T28 l1 x30_2).f6)] 28 (0, 0)) (by (with_reducible repeat (first | refine blk_drewN ?_ _ | refine blk_drew ?_ | refine blk_alloc ?_ _)); exact BK143.out)) : gb146 ≠ gb143)); clear HO_9; clear BK143; clear HB; have HO_9 := n0_; have BK143 := n1_; have HB := n2_; have BK146 := n3_; have GW146 := n4_; have GE146 := n5_; have NB143_146 := n6_; have NB146_143 := n7_; clear n0_ n1_ n2_ n3_ n4_ n5_ n6_ n7_; have NM146 := nq_; clear nq_; clear hb hbox hg; have hnb31 := NB146_143.out; have hnc31 := NB143_146.out; have hcz32_0 : w30.cell? ⟨gb146, 0, none⟩ = some (.int .i64 0) := (blk_cell BK146.out 0).trans rfl; have hcz32_1 : w30.cell? ⟨gb146, 1, none⟩ = some (.int .i64 0) := (blk_cell BK146.out 1).trans rfl; have hcz32_2 : w30.cell? ⟨gb146, 2, none⟩ = some (.int .i64 0) := (blk_cell BK146.out 2).trans rfl; have hcz32_3 : w30.cell? ⟨gb146, 3, none⟩ = some (.int .i64 0) := (blk_cell BK146.out 3).trans rfl; have hcz32_4 : w30.cell? ⟨gb146, 4, none⟩ = some (.int .i64 0) := (blk_cell BK146.out 4).trans rfl; have hcz32_5 : w30.cell? ⟨gb146, 5, none⟩ = some (.int .i64 0) := (blk_cell BK146.out 5).trans rfl; have hcz32_6 : w30.cell? ⟨gb146, 6, none⟩ = some (.int .i64 0) := (blk_cell BK146.out 6).trans rfl; have hfz32_0 := blk_frozen BK146.out 0; have hfz32_1 := blk_frozen BK146.out 1; have hfz32_2 := blk_frozen BK146.out 2; have hfz32_3 := blk_frozen BK146.out 3; have hfz32_4 := blk_frozen BK146.out 4; have hfz32_5 := blk_frozen BK146.out 5; have hfz32_6 := blk_frozen BK146.out 6; have hcz33_0 : w30.cell? ⟨gb143, 0, none⟩ = some (.int .i64 ((rd_T28 l1 x30_2).f0)) := (blk_cell BK143.out 0).trans rfl; have hcz33_1 : w30.cell? ⟨gb143, 1, none⟩ = some (.int .i64 ((rd_T28 l1 x30_2).f1)) := (blk_cell BK143.out 1).trans rfl; have hcz33_2 : w30.cell? ⟨gb143, 2, none⟩ = some (.int .i64 ((rd_T28 l1 x30_2).f2)) := (blk_cell BK143.out 2).trans rfl; have hcz33_3 : w30.cell? ⟨gb143, 3, none⟩ = some (.int .i64 ((rd_T28 l1 x30_2).f3)) := (blk_cell BK143.out 3).trans rfl; have hcz33_4 : w30.cell? ⟨gb143, 4, none⟩ = some (.int .i64 ((rd_T28 l1 x30_2).f4)) := (blk_cell BK143.out 4).trans rfl; have hcz33_5 : w30.cell? ⟨gb143, 5, none⟩ = some (.int .i64 ((rd_T28 l1 x30_2).f5)) := (blk_cell BK143.out 5).trans rfl; have hcz33_6 : w30.cell? ⟨gb143, 6, none⟩ = some (.int .i64 ((rd_T28 l1 x30_2).f6)) := (blk_cell BK143.out 6).trans rfl; have hfz33_0 := blk_frozen BK143.out 0; have hfz33_1 := blk_frozen BK143.out 1; have hfz33_2 := blk_frozen BK143.out 2; have hfz33_3 := blk_frozen BK143.out 3; have hfz33_4 := blk_frozen BK143.out 4; have hfz33_5 := blk_frozen BK143.out 5; have hfz33_6 := blk_frozen BK143.out 6))
             try go_wp2_with (first | ((with_reducible refine Mp.gate_look rfl ?_); refine Mp.look_ok_some (enc := Mp.pk) (venc := ev50) rfl _ _ rfl keyed50 Try.underlying50 zeroE50 rfl (by repeat (first | (with_reducible first | exact HB.out | apply Mp.bm_alloc | apply Mp.bm_drewN | apply Mp.bm_drew1 | refine Mp.bm_set ?_ GE143.out NM143.out | refine Mp.bm_set ?_ GE146.out NM146.out) | exact HB.out)) (t144, t145) rfl (keyof50 (of_eq_true (by assumption)) (of_eq_true (by assumption))) c25b0 z28 ?_; simp only [ev50]))
             go_ret2
             exact ⟨_, by first | rfl | (simp [errW_none, errW_some] <;> rfl) | (simp [*, errW_none, errW_some] <;> rfl), by first | exact Kd.R_nil _ _ _ _ _ | exact Kd.N_nil _ _ _ _ _ | exact Kd.V_nil _ _ _ _ _ | exact Kd.Q_nil _ _ _ _ _ | exact Kd.S_nil _ _ _ _ _, Mp.BM.b (show Mp.BM Try.prog 52 Mp.pk ev50 mb_ x6_1 w _ from by repeat (first | (with_reducible first | exact HB.out | apply Mp.bm_alloc | apply Mp.bm_drewN | apply Mp.bm_drew1 | refine Mp.bm_set ?_ GE143.out NM143.out | refine Mp.bm_set ?_ GE146.out NM146.out) | exact HB.out))⟩
            ·rw [if_neg c26] at H
             have c26b0 : (!((((Mp.look (t144, t145) x6_1).getD z28).f0) == ((rd_T28 l1 x30_2).f0)) || (!((((Mp.look (t144, t145) x6_1).getD z28).f1) == ((rd_T28 l1 x30_2).f1)) || (!((((Mp.look (t144, t145) x6_1).getD z28).f2) == ((rd_T28 l1 x30_2).f2)) || (!((((Mp.look (t144, t145) x6_1).getD z28).f3) == ((rd_T28 l1 x30_2).f3)) || (!((((Mp.look (t144, t145) x6_1).getD z28).f4) == ((rd_T28 l1 x30_2).f4)) || (!((((Mp.look (t144, t145) x6_1).getD z28).f5) == ((rd_T28 l1 x30_2).f5)) || (!((((Mp.look (t144, t145) x6_1).getD z28).f6) == ((rd_T28 l1 x30_2).f6))))))))) = false := by simpa using c26
             clear c26
             have H' := Aside0.mk H
             clear H
             have p142 : 0 ≤ (x30_2 : Int) := of_decide_eq_true (by first | (with_reducible assumption) | assumption)
             have q142 : x30_2 < (l1.length : Int) := of_decide_eq_true (by first | (with_reducible assumption) | assumption)
             obtain ⟨ad142, e142, hx142_0, hx142_1, hx142_2, hx142_3, hx142_4, hx142_5, hx142_6⟩ := at_T28 HR1.out x30_2 p142 q142
             cases e142
             replace hx142_0 := Mp.bm_cell HB.out hx142_0
             replace hx142_1 := Mp.bm_cell HB.out hx142_1
             replace hx142_2 := Mp.bm_cell HB.out hx142_2
             replace hx142_3 := Mp.bm_cell HB.out hx142_3
             replace hx142_4 := Mp.bm_cell HB.out hx142_4
             replace hx142_5 := Mp.bm_cell HB.out hx142_5
             replace hx142_6 := Mp.bm_cell HB.out hx142_6
             replace p142 := eq_true p142
             replace q142 := eq_true q142
             go_wp2_with (first | ((with_reducible refine Mp.gate_look rfl ?_); refine Mp.look_ok_some (enc := Mp.pk) (venc := ev50) rfl _ _ rfl keyed50 Try.underlying50 zeroE50 rfl (by repeat (first | (with_reducible first | exact HB.out | apply Mp.bm_alloc | apply Mp.bm_drewN | apply Mp.bm_drew1 | refine Mp.bm_set ?_ GE143.out NM143.out | refine Mp.bm_set ?_ GE146.out NM146.out) | exact HB.out)) (t144, t145) rfl (keyof50 (of_eq_true (by assumption)) (of_eq_true (by assumption))) c25b0 z28 ?_; simp only [ev50]) | ((with_reducible refine gate_dst (N := 11) rfl ?_); refine box_event ?hg (N := 11) ?hd (cs := #[.int .i64 0, .int .i64 0, .int .i64 0, .int .i64 0, .int .i64 0, .int .i64 0, .int .i64 0]) (t := 28) ?hr ?_; (case hd => rfl); (case hg => rfl); (case hr => first | (go_simp; done) | (go_simp; rfl)); intro gb143 hg w34 hbox hb; have nq_ := Aside0.mk (by rw [hg]; exact Nat.ne_of_lt (Mp.bm_lt (show Mp.BM Try.prog 52 Mp.pk ev50 mb_ x6_1 w _ from by repeat (first | (with_reducible first | exact HB.out | apply Mp.bm_alloc | apply Mp.bm_drewN | apply Mp.bm_drew1) | exact HB.out))) : mb_ ≠ gb143); have n0_ := Aside0.mk (Kd.R_below (Kd.R_elderB (by (with_reducible repeat (first | apply Kd.R_alloc | apply Kd.R_drewN | apply Kd.R_drew)); exact HO_9.out) gb143 (Nat.le_of_eq hg.symm)) hb); have n1_ := Aside0.mk (Mp.bm_step (show Mp.BM Try.prog 52 Mp.pk ev50 mb_ x6_1 w _ from by repeat (first | (with_reducible first | exact HB.out | apply Mp.bm_alloc | apply Mp.bm_drewN | apply Mp.bm_drew1) | exact HB.out)) hb); have n2_ := Aside0.mk (hbox); have n3_ := Aside0.mk ((by rw [hg]; exact (Mp.bm_size (show Mp.BM Try.prog 52 Mp.pk ev50 mb_ x6_1 w _ from by repeat (first | (with_reducible first | exact HB.out | apply Mp.bm_alloc | apply Mp.bm_drewN | apply Mp.bm_drew1) | exact HB.out))) : w.heap.size ≤ gb143)); have n4_ := Aside0.mk ((by rw [hg]; exact (Mp.bm_size (show Mp.BM Try.prog 52 Mp.pk ev50 mb_ x6_1 w _ from by repeat (first | (with_reducible first | exact HB.out | apply Mp.bm_alloc | apply Mp.bm_drewN | apply Mp.bm_drew1) | exact HB.out))) : w.heap.size ≤ gb143)); clear HO_9; clear HB; have HO_9 := n0_; have HB := n1_; have BK143 := n2_; have GW143 := n3_; have GE143 := n4_; clear n0_ n1_ n2_ n3_ n4_; have NM143 := nq_; clear nq_; clear hb hbox hg; have hcz35_0 : w34.cell? ⟨gb143, 0, none⟩ = some (.int .i64 0) := (blk_cell BK143.out 0).trans rfl; have hcz35_1 : w34.cell? ⟨gb143, 1, none⟩ = some (.int .i64 0) := (blk_cell BK143.out 1).trans rfl; have hcz35_2 : w34.cell? ⟨gb143, 2, none⟩ = some (.int .i64 0) := (blk_cell BK143.out 2).trans rfl; have hcz35_3 : w34.cell? ⟨gb143, 3, none⟩ = some (.int .i64 0) := (blk_cell BK143.out 3).trans rfl; have hcz35_4 : w34.cell? ⟨gb143, 4, none⟩ = some (.int .i64 0) := (blk_cell BK143.out 4).trans rfl; have hcz35_5 : w34.cell? ⟨gb143, 5, none⟩ = some (.int .i64 0) := (blk_cell BK143.out 5).trans rfl; have hcz35_6 : w34.cell? ⟨gb143, 6, none⟩ = some (.int .i64 0) := (blk_cell BK143.out 6).trans rfl; have hfz35_0 := blk_frozen BK143.out 0; have hfz35_1 := blk_frozen BK143.out 1; have hfz35_2 := blk_frozen BK143.out 2; have hfz35_3 := blk_frozen BK143.out 3; have hfz35_4 := blk_frozen BK143.out 4; have hfz35_5 := blk_frozen BK143.out 5; have hfz35_6 := blk_frozen BK143.out 6) | ((with_reducible refine gate_callee (f := 32) rfl ?_); refine goesL_ (some 37) rfl rfl Try.func32 (by kernel_rfl) rfl #[.agg #[.int .i64 ((rd_T28 l1 x30_2).f0), .int .i64 ((rd_T28 l1 x30_2).f1), .int .i64 ((rd_T28 l1 x30_2).f2), .int .i64 ((rd_T28 l1 x30_2).f3), .int .i64 ((rd_T28 l1 x30_2).f4), .int .i64 ((rd_T28 l1 x30_2).f5), .int .i64 ((rd_T28 l1 x30_2).f6)]] rfl (by (try simp only [List.map_toArray, List.map_cons, List.map_nil]); first | done | rfl | (simp only [List.length_drop, List.length_take]; rfl)) ?_; (with_reducible refine (rides_keyOf.calls ((rd_T28 l1 x30_2).f0) ((rd_T28 l1 x30_2).f1) ((rd_T28 l1 x30_2).f2) ((rd_T28 l1 x30_2).f3) ((rd_T28 l1 x30_2).f4) ((rd_T28 l1 x30_2).f5) ((rd_T28 l1 x30_2).f6) t144 t145 _ A22.out).mono ?_); rintro e w36 ⟨rfl, hb⟩; refine ⟨_, rfl, ?_⟩; have n0_ := Aside0.mk (Kd.R_below (by (with_reducible repeat (first | apply Kd.R_alloc | apply Kd.R_drewN | apply Kd.R_drew)); exact (Kd.R_mono (Kd.R_far (p := ⟨gb143, 6, none⟩) (Kd.R_far (p := ⟨gb143, 5, none⟩) (Kd.R_far (p := ⟨gb143, 4, none⟩) (Kd.R_far (p := ⟨gb143, 3, none⟩) (Kd.R_far (p := ⟨gb143, 2, none⟩) (Kd.R_far (p := ⟨gb143, 1, none⟩) (Kd.R_far (p := ⟨gb143, 0, none⟩) (Kd.R_mono HO_9.out (fun k_ hk => (⟨hk, hk.2⟩ : _ ∧ k_ ≠ gb143))) (fun _ hk => hk.2) (.int .i64 ((rd_T28 l1 x30_2).f0))) (fun _ hk => hk.2) (.int .i64 ((rd_T28 l1 x30_2).f1))) (fun _ hk => hk.2) (.int .i64 ((rd_T28 l1 x30_2).f2))) (fun _ hk => hk.2) (.int .i64 ((rd_T28 l1 x30_2).f3))) (fun _ hk => hk.2) (.int .i64 ((rd_T28 l1 x30_2).f4))) (fun _ hk => hk.2) (.int .i64 ((rd_T28 l1 x30_2).f5))) (fun _ hk => hk.2) (.int .i64 ((rd_T28 l1 x30_2).f6))) (fun _ h_ => h_.1))) hb); have n1_ := Aside0.mk (blk_below (g := gb143) (o := .cells #[.int .i64 ((rd_T28 l1 x30_2).f0), .int .i64 ((rd_T28 l1 x30_2).f1), .int .i64 ((rd_T28 l1 x30_2).f2), .int .i64 ((rd_T28 l1 x30_2).f3), .int .i64 ((rd_T28 l1 x30_2).f4), .int .i64 ((rd_T28 l1 x30_2).f5), .int .i64 ((rd_T28 l1 x30_2).f6)] 28 (0, 0)) (by (with_reducible repeat (first | refine blk_drewN ?_ _ | refine blk_drew ?_ | refine blk_alloc ?_ _)); refine blk_put (cs := #[.int .i64 ((rd_T28 l1 x30_2).f0), .int .i64 ((rd_T28 l1 x30_2).f1), .int .i64 ((rd_T28 l1 x30_2).f2), .int .i64 ((rd_T28 l1 x30_2).f3), .int .i64 ((rd_T28 l1 x30_2).f4), .int .i64 ((rd_T28 l1 x30_2).f5), .int .i64 0]) ?_ 6 _ rfl; (with_reducible repeat (first | refine blk_drewN ?_ _ | refine blk_drew ?_ | refine blk_alloc ?_ _)); refine blk_put (cs := #[.int .i64 ((rd_T28 l1 x30_2).f0), .int .i64 ((rd_T28 l1 x30_2).f1), .int .i64 ((rd_T28 l1 x30_2).f2), .int .i64 ((rd_T28 l1 x30_2).f3), .int .i64 ((rd_T28 l1 x30_2).f4), .int .i64 0, .int .i64 0]) ?_ 5 _ rfl; (with_reducible repeat (first | refine blk_drewN ?_ _ | refine blk_drew ?_ | refine blk_alloc ?_ _)); refine blk_put (cs := #[.int .i64 ((rd_T28 l1 x30_2).f0), .int .i64 ((rd_T28 l1 x30_2).f1), .int .i64 ((rd_T28 l1 x30_2).f2), .int .i64 ((rd_T28 l1 x30_2).f3), .int .i64 0, .int .i64 0, .int .i64 0]) ?_ 4 _ rfl; (with_reducible repeat (first | refine blk_drewN ?_ _ | refine blk_drew ?_ | refine blk_alloc ?_ _)); refine blk_put (cs := #[.int .i64 ((rd_T28 l1 x30_2).f0), .int .i64 ((rd_T28 l1 x30_2).f1), .int .i64 ((rd_T28 l1 x30_2).f2), .int .i64 0, .int .i64 0, .int .i64 0, .int .i64 0]) ?_ 3 _ rfl; (with_reducible repeat (first | refine blk_drewN ?_ _ | refine blk_drew ?_ | refine blk_alloc ?_ _)); refine blk_put (cs := #[.int .i64 ((rd_T28 l1 x30_2).f0), .int .i64 ((rd_T28 l1 x30_2).f1), .int .i64 0, .int .i64 0, .int .i64 0, .int .i64 0, .int .i64 0]) ?_ 2 _ rfl; (with_reducible repeat (first | refine blk_drewN ?_ _ | refine blk_drew ?_ | refine blk_alloc ?_ _)); refine blk_put (cs := #[.int .i64 ((rd_T28 l1 x30_2).f0), .int .i64 0, .int .i64 0, .int .i64 0, .int .i64 0, .int .i64 0, .int .i64 0]) ?_ 1 _ rfl; (with_reducible repeat (first | refine blk_drewN ?_ _ | refine blk_drew ?_ | refine blk_alloc ?_ _)); refine blk_put (cs := #[.int .i64 0, .int .i64 0, .int .i64 0, .int .i64 0, .int .i64 0, .int .i64 0, .int .i64 0]) ?_ 0 _ rfl; (with_reducible repeat (first | refine blk_drewN ?_ _ | refine blk_drew ?_ | refine blk_alloc ?_ _)); exact BK143.out) hb); have n2_ := Aside0.mk (Mp.bm_step (show Mp.BM Try.prog 52 Mp.pk ev50 mb_ x6_1 w _ from by repeat (first | (with_reducible first | exact HB.out | apply Mp.bm_alloc | apply Mp.bm_drewN | apply Mp.bm_drew1 | refine Mp.bm_set ?_ GE143.out NM143.out) | exact HB.out)) hb); clear HO_9; clear BK143; clear HB; have HO_9 := n0_; have BK143 := n1_; have HB := n2_; clear n0_ n1_ n2_; (try clear hb); (try clear hb2); (try clear hk); (try clear hi)) | ((with_reducible refine gate_dst (N := 12) rfl ?_); refine box_event ?hg (N := 12) ?hd (cs := #[.int .i64 0, .int .i64 0, .int .i64 0, .int .i64 0, .int .i64 0, .int .i64 0, .int .i64 0]) (t := 28) ?hr ?_; (case hd => rfl); (case hg => rfl); (case hr => first | (go_simp; done) | (go_simp; rfl)); intro gb146 hg w37 hbox hb; have nq_ := Aside0.mk (by rw [hg]; exact Nat.ne_of_lt (Mp.bm_lt (show Mp.BM Try.prog 52 Mp.pk ev50 mb_ x6_1 w _ from by repeat (first | (with_reducible first | exact HB.out | apply Mp.bm_alloc | apply Mp.bm_drewN | apply Mp.bm_drew1) | exact HB.out))) : mb_ ≠ gb146); have n0_ := Aside0.mk (Kd.R_below (Kd.R_elderB (by (with_reducible repeat (first | apply Kd.R_alloc | apply Kd.R_drewN | apply Kd.R_drew)); exact HO_9.out) gb146 (Nat.le_of_eq hg.symm)) hb); have n1_ := Aside0.mk (blk_below (g := gb143) (o := .cells #[.int .i64 ((rd_T28 l1 x30_2).f0), .int .i64 ((rd_T28 l1 x30_2).f1), .int .i64 ((rd_T28 l1 x30_2).f2), .int .i64 ((rd_T28 l1 x30_2).f3), .int .i64 ((rd_T28 l1 x30_2).f4), .int .i64 ((rd_T28 l1 x30_2).f5), .int .i64 ((rd_T28 l1 x30_2).f6)] 28 (0, 0)) (by (with_reducible repeat (first | refine blk_drewN ?_ _ | refine blk_drew ?_ | refine blk_alloc ?_ _)); exact BK143.out) hb); have n2_ := Aside0.mk (Mp.bm_step (show Mp.BM Try.prog 52 Mp.pk ev50 mb_ x6_1 w _ from by repeat (first | (with_reducible first | exact HB.out | apply Mp.bm_alloc | apply Mp.bm_drewN | apply Mp.bm_drew1 | refine Mp.bm_set ?_ GE143.out NM143.out) | exact HB.out)) hb); have n3_ := Aside0.mk (hbox); have n4_ := Aside0.mk ((by rw [hg]; exact (Mp.bm_size (show Mp.BM Try.prog 52 Mp.pk ev50 mb_ x6_1 w _ from by repeat (first | (with_reducible first | exact HB.out | apply Mp.bm_alloc | apply Mp.bm_drewN | apply Mp.bm_drew1 | refine Mp.bm_set ?_ GE143.out NM143.out) | exact HB.out))) : w.heap.size ≤ gb146)); have n5_ := Aside0.mk ((by rw [hg]; exact (Mp.bm_size (show Mp.BM Try.prog 52 Mp.pk ev50 mb_ x6_1 w _ from by repeat (first | (with_reducible first | exact HB.out | apply Mp.bm_alloc | apply Mp.bm_drewN | apply Mp.bm_drew1 | refine Mp.bm_set ?_ GE143.out NM143.out) | exact HB.out))) : w.heap.size ≤ gb146)); have n6_ := Aside0.mk ((by rw [hg]; exact Nat.ne_of_lt (blk_lt (g := gb143) (o := .cells #[.int .i64 ((rd_T28 l1 x30_2).f0), .int .i64 ((rd_T28 l1 x30_2).f1), .int .i64 ((rd_T28 l1 x30_2).f2), .int .i64 ((rd_T28 l1 x30_2).f3), .int .i64 ((rd_T28 l1 x30_2).f4), .int .i64 ((rd_T28 l1 x30_2).f5), .int .i64 ((rd_T28 l1 x30_2).f6)] 28 (0, 0)) (by (with_reducible repeat (first | refine blk_drewN ?_ _ | refine blk_drew ?_ | refine blk_alloc ?_ _)); exact BK143.out)) : gb143 ≠ gb146)); have n7_ := Aside0.mk ((by rw [hg]; exact Nat.ne_of_gt (blk_lt (g := gb143) (o := .cells #[.int .i64 ((rd_T28 l1 x30_2).f0), .int .i64 ((rd_T28 l1 x30_2).f1), .int .i64 ((rd_T28 l1 x30_2).f2), .int .i64 ((rd_T28 l1 x30_2).f3), .int .i64 ((rd_T28 l1 x30_2).f4), .int .i64 ((rd_T28 l1 x30_2).f5), .int .i64 ((rd_T28 l1 x30_2).f6)] 28 (0, 0)) (by (with_reducible repeat (first | refine blk_drewN ?_ _ | refine blk_drew ?_ | refine blk_alloc ?_ _)); exact BK143.out)) : gb146 ≠ gb143)); clear HO_9; clear BK143; clear HB; have HO_9 := n0_; have BK143 := n1_; have HB := n2_; have BK146 := n3_; have GW146 := n4_; have GE146 := n5_; have NB143_146 := n6_; have NB146_143 := n7_; clear n0_ n1_ n2_ n3_ n4_ n5_ n6_ n7_; have NM146 := nq_; clear nq_; clear hb hbox hg; have hnb38 := NB146_143.out; have hnc38 := NB143_146.out; have hcz39_0 : w37.cell? ⟨gb146, 0, none⟩ = some (.int .i64 0) := (blk_cell BK146.out 0).trans rfl; have hcz39_1 : w37.cell? ⟨gb146, 1, none⟩ = some (.int .i64 0) := (blk_cell BK146.out 1).trans rfl; have hcz39_2 : w37.cell? ⟨gb146, 2, none⟩ = some (.int .i64 0) := (blk_cell BK146.out 2).trans rfl; have hcz39_3 : w37.cell? ⟨gb146, 3, none⟩ = some (.int .i64 0) := (blk_cell BK146.out 3).trans rfl; have hcz39_4 : w37.cell? ⟨gb146, 4, none⟩ = some (.int .i64 0) := (blk_cell BK146.out 4).trans rfl; have hcz39_5 : w37.cell? ⟨gb146, 5, none⟩ = some (.int .i64 0) := (blk_cell BK146.out 5).trans rfl; have hcz39_6 : w37.cell? ⟨gb146, 6, none⟩ = some (.int .i64 0) := (blk_cell BK146.out 6).trans rfl; have hfz39_0 := blk_frozen BK146.out 0; have hfz39_1 := blk_frozen BK146.out 1; have hfz39_2 := blk_frozen BK146.out 2; have hfz39_3 := blk_frozen BK146.out 3; have hfz39_4 := blk_frozen BK146.out 4; have hfz39_5 := blk_frozen BK146.out 5; have hfz39_6 := blk_frozen BK146.out 6; have hcz40_0 : w37.cell? ⟨gb143, 0, none⟩ = some (.int .i64 ((rd_T28 l1 x30_2).f0)) := (blk_cell BK143.out 0).trans rfl; have hcz40_1 : w37.cell? ⟨gb143, 1, none⟩ = some (.int .i64 ((rd_T28 l1 x30_2).f1)) := (blk_cell BK143.out 1).trans rfl; have hcz40_2 : w37.cell? ⟨gb143, 2, none⟩ = some (.int .i64 ((rd_T28 l1 x30_2).f2)) := (blk_cell BK143.out 2).trans rfl; have hcz40_3 : w37.cell? ⟨gb143, 3, none⟩ = some (.int .i64 ((rd_T28 l1 x30_2).f3)) := (blk_cell BK143.out 3).trans rfl; have hcz40_4 : w37.cell? ⟨gb143, 4, none⟩ = some (.int .i64 ((rd_T28 l1 x30_2).f4)) := (blk_cell BK143.out 4).trans rfl; have hcz40_5 : w37.cell? ⟨gb143, 5, none⟩ = some (.int .i64 ((rd_T28 l1 x30_2).f5)) := (blk_cell BK143.out 5).trans rfl; have hcz40_6 : w37.cell? ⟨gb143, 6, none⟩ = some (.int .i64 ((rd_T28 l1 x30_2).f6)) := (blk_cell BK143.out 6).trans rfl; have hfz40_0 := blk_frozen BK143.out 0; have hfz40_1 := blk_frozen BK143.out 1; have hfz40_2 := blk_frozen BK143.out 2; have hfz40_3 := blk_frozen BK143.out 3; have hfz40_4 := blk_frozen BK143.out 4; have hfz40_5 := blk_frozen BK143.out 5; have hfz40_6 := blk_frozen BK143.out 6))
             go_roundg k2
             case measure => have := HK1.out; have := HK2.out; omega
             case rel => exact ⟨(x9_2), (wrap64 (x30_2 + 1)), (by first | rfl | (simp; done) | (simp [*]; done)), H', ⟨by have := HK1.out; have := HK2.out; omega⟩, ⟨by (with_reducible repeat (first | apply Kd.R_alloc | apply Kd.R_drewN | apply Kd.R_drew)); exact Kd.R_mono (Kd.R_far (p := ⟨gb146, 6, none⟩) (Kd.R_far (p := ⟨gb146, 5, none⟩) (Kd.R_far (p := ⟨gb146, 4, none⟩) (Kd.R_far (p := ⟨gb146, 3, none⟩) (Kd.R_far (p := ⟨gb146, 2, none⟩) (Kd.R_far (p := ⟨gb146, 1, none⟩) (Kd.R_far (p := ⟨gb146, 0, none⟩) (Kd.R_mono HO_9.out (fun k_ hk => (⟨hk, hk.2⟩ : _ ∧ k_ ≠ gb146))) (fun _ hk => hk.2) (.int .i64 (((Mp.look (t144, t145) x6_1).getD z28).f0))) (fun _ hk => hk.2) (.int .i64 (((Mp.look (t144, t145) x6_1).getD z28).f1))) (fun _ hk => hk.2) (.int .i64 (((Mp.look (t144, t145) x6_1).getD z28).f2))) (fun _ hk => hk.2) (.int .i64 (((Mp.look (t144, t145) x6_1).getD z28).f3))) (fun _ hk => hk.2) (.int .i64 (((Mp.look (t144, t145) x6_1).getD z28).f4))) (fun _ hk => hk.2) (.int .i64 (((Mp.look (t144, t145) x6_1).getD z28).f5))) (fun _ hk => hk.2) (.int .i64 (((Mp.look (t144, t145) x6_1).getD z28).f6))) (fun _ hk => trivial)⟩, ⟨by repeat (first | (with_reducible first | exact HB.out | apply Mp.bm_alloc | apply Mp.bm_drewN | apply Mp.bm_drew1 | refine Mp.bm_set ?_ GE143.out NM143.out | refine Mp.bm_set ?_ GE146.out NM146.out) | exact HB.out)⟩⟩
           ·rw [if_neg c25] at H
            have c25b0 : (Mp.look (t144, t145) x6_1).isSome = false := Bool.eq_false_iff.2 c25
            clear c25
            by_cases c41 : x9_2.length < 2513169434916
            ·rw [if_pos c41] at H
             have LMc41 := Aside0.mk c41
             clear c41
             obtain ⟨y148, hy148⟩ : ∃ y_ : List (S28), y_ = (x9_2 ++ [(⟨(rd_T28 l1 x30_2).f0, (rd_T28 l1 x30_2).f1, (rd_T28 l1 x30_2).f2, (rd_T28 l1 x30_2).f3, (rd_T28 l1 x30_2).f4, (rd_T28 l1 x30_2).f5, (rd_T28 l1 x30_2).f6⟩ : S28)]) := ⟨_, rfl⟩
             replace H : (rides_Merge.l1 k2 x6_1 y148 l1 (l1.length : Int) (wrap64 (x30_2 + 1))) = some (r1, r2) := by first | (rw [hy148]; with_reducible exact H) | (have H2_ := (Option.bind_some _ _).symm.trans H; rw [hy148]; with_reducible exact H2_) | (have H2_ := (Option.bind_some _ _).symm.trans H; with_reducible exact H2_) | with_reducible exact H | (rw [hy148]; exact H) | exact H
             have Ny148 := Aside0.mk hy148
             clear hy148
             have H' := Aside0.mk H
             clear H
             have p142 : 0 ≤ (x30_2 : Int) := of_decide_eq_true (by first | (with_reducible assumption) | assumption)
             have q142 : x30_2 < (l1.length : Int) := of_decide_eq_true (by first | (with_reducible assumption) | assumption)
             obtain ⟨ad142, e142, hx142_0, hx142_1, hx142_2, hx142_3, hx142_4, hx142_5, hx142_6⟩ := at_T28 HR1.out x30_2 p142 q142
             cases e142
             replace hx142_0 := Mp.bm_cell HB.out hx142_0
             replace hx142_1 := Mp.bm_cell HB.out hx142_1
             replace hx142_2 := Mp.bm_cell HB.out hx142_2
             replace hx142_3 := Mp.bm_cell HB.out hx142_3
             replace hx142_4 := Mp.bm_cell HB.out hx142_4
             replace hx142_5 := Mp.bm_cell HB.out hx142_5
             replace hx142_6 := Mp.bm_cell HB.out hx142_6
             replace p142 := eq_true p142
             replace q142 := eq_true q142
             go_wp2_with (first | ((with_reducible refine Mp.gate_look rfl ?_); refine Mp.look_ok_none (enc := Mp.pk) rfl _ _ rfl keyed50 Try.underlying50 zeroE50 rfl (by repeat (first | (with_reducible first | exact HB.out | apply Mp.bm_alloc | apply Mp.bm_drewN | apply Mp.bm_drew1 | refine Mp.bm_set ?_ GE143.out NM143.out | refine Mp.bm_set ?_ GE147.out NM147.out) | exact HB.out)) (t144, t145) rfl (keyof50 (of_eq_true (by assumption)) (of_eq_true (by assumption))) c25b0 ?_) | ((with_reducible refine gate_dst (N := 11) rfl ?_); refine box_event ?hg (N := 11) ?hd (cs := #[.int .i64 0, .int .i64 0, .int .i64 0, .int .i64 0, .int .i64 0, .int .i64 0, .int .i64 0]) (t := 28) ?hr ?_; (case hd => rfl); (case hg => rfl); (case hr => first | (go_simp; done) | (go_simp; rfl)); intro gb143 hg w42 hbox hb; have nq_ := Aside0.mk (by rw [hg]; exact Nat.ne_of_lt (Mp.bm_lt (show Mp.BM Try.prog 52 Mp.pk ev50 mb_ x6_1 w _ from by repeat (first | (with_reducible first | exact HB.out | apply Mp.bm_alloc | apply Mp.bm_drewN | apply Mp.bm_drew1) | exact HB.out))) : mb_ ≠ gb143); have n0_ := Aside0.mk (Kd.R_below (Kd.R_elderB (by (with_reducible repeat (first | apply Kd.R_alloc | apply Kd.R_drewN | apply Kd.R_drew)); exact HO_9.out) gb143 (Nat.le_of_eq hg.symm)) hb); have n1_ := Aside0.mk (Mp.bm_step (show Mp.BM Try.prog 52 Mp.pk ev50 mb_ x6_1 w _ from by repeat (first | (with_reducible first | exact HB.out | apply Mp.bm_alloc | apply Mp.bm_drewN | apply Mp.bm_drew1) | exact HB.out)) hb); have n2_ := Aside0.mk (hbox); have n3_ := Aside0.mk ((by rw [hg]; exact (Mp.bm_size (show Mp.BM Try.prog 52 Mp.pk ev50 mb_ x6_1 w _ from by repeat (first | (with_reducible first | exact HB.out | apply Mp.bm_alloc | apply Mp.bm_drewN | apply Mp.bm_drew1) | exact HB.out))) : w.heap.size ≤ gb143)); have n4_ := Aside0.mk ((by rw [hg]; exact (Mp.bm_size (show Mp.BM Try.prog 52 Mp.pk ev50 mb_ x6_1 w _ from by repeat (first | (with_reducible first | exact HB.out | apply Mp.bm_alloc | apply Mp.bm_drewN | apply Mp.bm_drew1) | exact HB.out))) : w.heap.size ≤ gb143)); clear HO_9; clear HB; have HO_9 := n0_; have HB := n1_; have BK143 := n2_; have GW143 := n3_; have GE143 := n4_; clear n0_ n1_ n2_ n3_ n4_; have NM143 := nq_; clear nq_; clear hb hbox hg; have hcz43_0 : w42.cell? ⟨gb143, 0, none⟩ = some (.int .i64 0) := (blk_cell BK143.out 0).trans rfl; have hcz43_1 : w42.cell? ⟨gb143, 1, none⟩ = some (.int .i64 0) := (blk_cell BK143.out 1).trans rfl; have hcz43_2 : w42.cell? ⟨gb143, 2, none⟩ = some (.int .i64 0) := (blk_cell BK143.out 2).trans rfl; have hcz43_3 : w42.cell? ⟨gb143, 3, none⟩ = some (.int .i64 0) := (blk_cell BK143.out 3).trans rfl; have hcz43_4 : w42.cell? ⟨gb143, 4, none⟩ = some (.int .i64 0) := (blk_cell BK143.out 4).trans rfl; have hcz43_5 : w42.cell? ⟨gb143, 5, none⟩ = some (.int .i64 0) := (blk_cell BK143.out 5).trans rfl; have hcz43_6 : w42.cell? ⟨gb143, 6, none⟩ = some (.int .i64 0) := (blk_cell BK143.out 6).trans rfl; have hfz43_0 := blk_frozen BK143.out 0; have hfz43_1 := blk_frozen BK143.out 1; have hfz43_2 := blk_frozen BK143.out 2; have hfz43_3 := blk_frozen BK143.out 3; have hfz43_4 := blk_frozen BK143.out 4; have hfz43_5 := blk_frozen BK143.out 5; have hfz43_6 := blk_frozen BK143.out 6) | ((with_reducible refine gate_callee (f := 32) rfl ?_); refine goesL_ (some 37) rfl rfl Try.func32 (by kernel_rfl) rfl #[.agg #[.int .i64 ((rd_T28 l1 x30_2).f0), .int .i64 ((rd_T28 l1 x30_2).f1), .int .i64 ((rd_T28 l1 x30_2).f2), .int .i64 ((rd_T28 l1 x30_2).f3), .int .i64 ((rd_T28 l1 x30_2).f4), .int .i64 ((rd_T28 l1 x30_2).f5), .int .i64 ((rd_T28 l1 x30_2).f6)]] rfl (by (try simp only [List.map_toArray, List.map_cons, List.map_nil]); first | done | rfl | (simp only [List.length_drop, List.length_take]; rfl)) ?_; (with_reducible refine (rides_keyOf.calls ((rd_T28 l1 x30_2).f0) ((rd_T28 l1 x30_2).f1) ((rd_T28 l1 x30_2).f2) ((rd_T28 l1 x30_2).f3) ((rd_T28 l1 x30_2).f4) ((rd_T28 l1 x30_2).f5) ((rd_T28 l1 x30_2).f6) t144 t145 _ A22.out).mono ?_); rintro e w44 ⟨rfl, hb⟩; refine ⟨_, rfl, ?_⟩; have n0_ := Aside0.mk (Kd.R_below (by (with_reducible repeat (first | apply Kd.R_alloc | apply Kd.R_drewN | apply Kd.R_drew)); exact (Kd.R_mono (Kd.R_far (p := ⟨gb143, 6, none⟩) (Kd.R_far (p := ⟨gb143, 5, none⟩) (Kd.R_far (p := ⟨gb143, 4, none⟩) (Kd.R_far (p := ⟨gb143, 3, none⟩) (Kd.R_far (p := ⟨gb143, 2, none⟩) (Kd.R_far (p := ⟨gb143, 1, none⟩) (Kd.R_far (p := ⟨gb143, 0, none⟩) (Kd.R_mono HO_9.out (fun k_ hk => (⟨hk, hk.2⟩ : _ ∧ k_ ≠ gb143))) (fun _ hk => hk.2) (.int .i64 ((rd_T28 l1 x30_2).f0))) (fun _ hk => hk.2) (.int .i64 ((rd_T28 l1 x30_2).f1))) (fun _ hk => hk.2) (.int .i64 ((rd_T28 l1 x30_2).f2))) (fun _ hk => hk.2) (.int .i64 ((rd_T28 l1 x30_2).f3))) (fun _ hk => hk.2) (.int .i64 ((rd_T28 l1 x30_2).f4))) (fun _ hk => hk.2) (.int .i64 ((rd_T28 l1 x30_2).f5))) (fun _ hk => hk.2) (.int .i64 ((rd_T28 l1 x30_2).f6))) (fun _ h_ => h_.1))) hb); have n1_ := Aside0.mk (blk_below (g := gb143) (o := .cells #[.int .i64 ((rd_T28 l1 x30_2).f0), .int .i64 ((rd_T28 l1 x30_2).f1), .int .i64 ((rd_T28 l1 x30_2).f2), .int .i64 ((rd_T28 l1 x30_2).f3), .int .i64 ((rd_T28 l1 x30_2).f4), .int .i64 ((rd_T28 l1 x30_2).f5), .int .i64 ((rd_T28 l1 x30_2).f6)] 28 (0, 0)) (by (with_reducible repeat (first | refine blk_drewN ?_ _ | refine blk_drew ?_ | refine blk_alloc ?_ _)); refine blk_put (cs := #[.int .i64 ((rd_T28 l1 x30_2).f0), .int .i64 ((rd_T28 l1 x30_2).f1), .int .i64 ((rd_T28 l1 x30_2).f2), .int .i64 ((rd_T28 l1 x30_2).f3), .int .i64 ((rd_T28 l1 x30_2).f4), .int .i64 ((rd_T28 l1 x30_2).f5), .int .i64 0]) ?_ 6 _ rfl; (with_reducible repeat (first | refine blk_drewN ?_ _ | refine blk_drew ?_ | refine blk_alloc ?_ _)); refine blk_put (cs := #[.int .i64 ((rd_T28 l1 x30_2).f0), .int .i64 ((rd_T28 l1 x30_2).f1), .int .i64 ((rd_T28 l1 x30_2).f2), .int .i64 ((rd_T28 l1 x30_2).f3), .int .i64 ((rd_T28 l1 x30_2).f4), .int .i64 0, .int .i64 0]) ?_ 5 _ rfl; (with_reducible repeat (first | refine blk_drewN ?_ _ | refine blk_drew ?_ | refine blk_alloc ?_ _)); refine blk_put (cs := #[.int .i64 ((rd_T28 l1 x30_2).f0), .int .i64 ((rd_T28 l1 x30_2).f1), .int .i64 ((rd_T28 l1 x30_2).f2), .int .i64 ((rd_T28 l1 x30_2).f3), .int .i64 0, .int .i64 0, .int .i64 0]) ?_ 4 _ rfl; (with_reducible repeat (first | refine blk_drewN ?_ _ | refine blk_drew ?_ | refine blk_alloc ?_ _)); refine blk_put (cs := #[.int .i64 ((rd_T28 l1 x30_2).f0), .int .i64 ((rd_T28 l1 x30_2).f1), .int .i64 ((rd_T28 l1 x30_2).f2), .int .i64 0, .int .i64 0, .int .i64 0, .int .i64 0]) ?_ 3 _ rfl; (with_reducible repeat (first | refine blk_drewN ?_ _ | refine blk_drew ?_ | refine blk_alloc ?_ _)); refine blk_put (cs := #[.int .i64 ((rd_T28 l1 x30_2).f0), .int .i64 ((rd_T28 l1 x30_2).f1), .int .i64 0, .int .i64 0, .int .i64 0, .int .i64 0, .int .i64 0]) ?_ 2 _ rfl; (with_reducible repeat (first | refine blk_drewN ?_ _ | refine blk_drew ?_ | refine blk_alloc ?_ _)); refine blk_put (cs := #[.int .i64 ((rd_T28 l1 x30_2).f0), .int .i64 0, .int .i64 0, .int .i64 0, .int .i64 0, .int .i64 0, .int .i64 0]) ?_ 1 _ rfl; (with_reducible repeat (first | refine blk_drewN ?_ _ | refine blk_drew ?_ | refine blk_alloc ?_ _)); refine blk_put (cs := #[.int .i64 0, .int .i64 0, .int .i64 0, .int .i64 0, .int .i64 0, .int .i64 0, .int .i64 0]) ?_ 0 _ rfl; (with_reducible repeat (first | refine blk_drewN ?_ _ | refine blk_drew ?_ | refine blk_alloc ?_ _)); exact BK143.out) hb); have n2_ := Aside0.mk (Mp.bm_step (show Mp.BM Try.prog 52 Mp.pk ev50 mb_ x6_1 w _ from by repeat (first | (with_reducible first | exact HB.out | apply Mp.bm_alloc | apply Mp.bm_drewN | apply Mp.bm_drew1 | refine Mp.bm_set ?_ GE143.out NM143.out) | exact HB.out)) hb); clear HO_9; clear BK143; clear HB; have HO_9 := n0_; have BK143 := n1_; have HB := n2_; clear n0_ n1_ n2_; (try clear hb); (try clear hb2); (try clear hk); (try clear hi)) | ((with_reducible refine gate_dst (N := 12) rfl ?_); refine box_event ?hg (N := 12) ?hd (cs := #[.int .i64 0, .int .i64 0, .int .i64 0, .int .i64 0, .int .i64 0, .int .i64 0, .int .i64 0]) (t := 28) ?hr ?_; (case hd => rfl); (case hg => rfl); (case hr => first | (go_simp; done) | (go_simp; rfl)); intro gb147 hg w45 hbox hb; have nq_ := Aside0.mk (by rw [hg]; exact Nat.ne_of_lt (Mp.bm_lt (show Mp.BM Try.prog 52 Mp.pk ev50 mb_ x6_1 w _ from by repeat (first | (with_reducible first | exact HB.out | apply Mp.bm_alloc | apply Mp.bm_drewN | apply Mp.bm_drew1) | exact HB.out))) : mb_ ≠ gb147); have n0_ := Aside0.mk (Kd.R_below (Kd.R_elderB (by (with_reducible repeat (first | apply Kd.R_alloc | apply Kd.R_drewN | apply Kd.R_drew)); exact HO_9.out) gb147 (Nat.le_of_eq hg.symm)) hb); have n1_ := Aside0.mk (blk_below (g := gb143) (o := .cells #[.int .i64 ((rd_T28 l1 x30_2).f0), .int .i64 ((rd_T28 l1 x30_2).f1), .int .i64 ((rd_T28 l1 x30_2).f2), .int .i64 ((rd_T28 l1 x30_2).f3), .int .i64 ((rd_T28 l1 x30_2).f4), .int .i64 ((rd_T28 l1 x30_2).f5), .int .i64 ((rd_T28 l1 x30_2).f6)] 28 (0, 0)) (by (with_reducible repeat (first | refine blk_drewN ?_ _ | refine blk_drew ?_ | refine blk_alloc ?_ _)); exact BK143.out) hb); have n2_ := Aside0.mk (Mp.bm_step (show Mp.BM Try.prog 52 Mp.pk ev50 mb_ x6_1 w _ from by repeat (first | (with_reducible first | exact HB.out | apply Mp.bm_alloc | apply Mp.bm_drewN | apply Mp.bm_drew1 | refine Mp.bm_set ?_ GE143.out NM143.out) | exact HB.out)) hb); have n3_ := Aside0.mk (hbox); have n4_ := Aside0.mk ((by rw [hg]; exact (Mp.bm_size (show Mp.BM Try.prog 52 Mp.pk ev50 mb_ x6_1 w _ from by repeat (first | (with_reducible first | exact HB.out | apply Mp.bm_alloc | apply Mp.bm_drewN | apply Mp.bm_drew1 | refine Mp.bm_set ?_ GE143.out NM143.out) | exact HB.out))) : w.heap.size ≤ gb147)); have n5_ := Aside0.mk ((by rw [hg]; exact (Mp.bm_size (show Mp.BM Try.prog 52 Mp.pk ev50 mb_ x6_1 w _ from by repeat (first | (with_reducible first | exact HB.out | apply Mp.bm_alloc | apply Mp.bm_drewN | apply Mp.bm_drew1 | refine Mp.bm_set ?_ GE143.out NM143.out) | exact HB.out))) : w.heap.size ≤ gb147)); have n6_ := Aside0.mk ((by rw [hg]; exact Nat.ne_of_lt (blk_lt (g := gb143) (o := .cells #[.int .i64 ((rd_T28 l1 x30_2).f0), .int .i64 ((rd_T28 l1 x30_2).f1), .int .i64 ((rd_T28 l1 x30_2).f2), .int .i64 ((rd_T28 l1 x30_2).f3), .int .i64 ((rd_T28 l1 x30_2).f4), .int .i64 ((rd_T28 l1 x30_2).f5), .int .i64 ((rd_T28 l1 x30_2).f6)] 28 (0, 0)) (by (with_reducible repeat (first | refine blk_drewN ?_ _ | refine blk_drew ?_ | refine blk_alloc ?_ _)); exact BK143.out)) : gb143 ≠ gb147)); have n7_ := Aside0.mk ((by rw [hg]; exact Nat.ne_of_gt (blk_lt (g := gb143) (o := .cells #[.int .i64 ((rd_T28 l1 x30_2).f0), .int .i64 ((rd_T28 l1 x30_2).f1), .int .i64 ((rd_T28 l1 x30_2).f2), .int .i64 ((rd_T28 l1 x30_2).f3), .int .i64 ((rd_T28 l1 x30_2).f4), .int .i64 ((rd_T28 l1 x30_2).f5), .int .i64 ((rd_T28 l1 x30_2).f6)] 28 (0, 0)) (by (with_reducible repeat (first | refine blk_drewN ?_ _ | refine blk_drew ?_ | refine blk_alloc ?_ _)); exact BK143.out)) : gb147 ≠ gb143)); clear HO_9; clear BK143; clear HB; have HO_9 := n0_; have BK143 := n1_; have HB := n2_; have BK147 := n3_; have GW147 := n4_; have GE147 := n5_; have NB143_147 := n6_; have NB147_143 := n7_; clear n0_ n1_ n2_ n3_ n4_ n5_ n6_ n7_; have NM147 := nq_; clear nq_; clear hb hbox hg; have hnb46 := NB147_143.out; have hnc46 := NB143_147.out; have hcz47_0 : w45.cell? ⟨gb147, 0, none⟩ = some (.int .i64 0) := (blk_cell BK147.out 0).trans rfl; have hcz47_1 : w45.cell? ⟨gb147, 1, none⟩ = some (.int .i64 0) := (blk_cell BK147.out 1).trans rfl; have hcz47_2 : w45.cell? ⟨gb147, 2, none⟩ = some (.int .i64 0) := (blk_cell BK147.out 2).trans rfl; have hcz47_3 : w45.cell? ⟨gb147, 3, none⟩ = some (.int .i64 0) := (blk_cell BK147.out 3).trans rfl; have hcz47_4 : w45.cell? ⟨gb147, 4, none⟩ = some (.int .i64 0) := (blk_cell BK147.out 4).trans rfl; have hcz47_5 : w45.cell? ⟨gb147, 5, none⟩ = some (.int .i64 0) := (blk_cell BK147.out 5).trans rfl; have hcz47_6 : w45.cell? ⟨gb147, 6, none⟩ = some (.int .i64 0) := (blk_cell BK147.out 6).trans rfl; have hfz47_0 := blk_frozen BK147.out 0; have hfz47_1 := blk_frozen BK147.out 1; have hfz47_2 := blk_frozen BK147.out 2; have hfz47_3 := blk_frozen BK147.out 3; have hfz47_4 := blk_frozen BK147.out 4; have hfz47_5 := blk_frozen BK147.out 5; have hfz47_6 := blk_frozen BK147.out 6; have hcz48_0 : w45.cell? ⟨gb143, 0, none⟩ = some (.int .i64 ((rd_T28 l1 x30_2).f0)) := (blk_cell BK143.out 0).trans rfl; have hcz48_1 : w45.cell? ⟨gb143, 1, none⟩ = some (.int .i64 ((rd_T28 l1 x30_2).f1)) := (blk_cell BK143.out 1).trans rfl; have hcz48_2 : w45.cell? ⟨gb143, 2, none⟩ = some (.int .i64 ((rd_T28 l1 x30_2).f2)) := (blk_cell BK143.out 2).trans rfl; have hcz48_3 : w45.cell? ⟨gb143, 3, none⟩ = some (.int .i64 ((rd_T28 l1 x30_2).f3)) := (blk_cell BK143.out 3).trans rfl; have hcz48_4 : w45.cell? ⟨gb143, 4, none⟩ = some (.int .i64 ((rd_T28 l1 x30_2).f4)) := (blk_cell BK143.out 4).trans rfl; have hcz48_5 : w45.cell? ⟨gb143, 5, none⟩ = some (.int .i64 ((rd_T28 l1 x30_2).f5)) := (blk_cell BK143.out 5).trans rfl; have hcz48_6 : w45.cell? ⟨gb143, 6, none⟩ = some (.int .i64 ((rd_T28 l1 x30_2).f6)) := (blk_cell BK143.out 6).trans rfl; have hfz48_0 := blk_frozen BK143.out 0; have hfz48_1 := blk_frozen BK143.out 1; have hfz48_2 := blk_frozen BK143.out 2; have hfz48_3 := blk_frozen BK143.out 3; have hfz48_4 := blk_frozen BK143.out 4; have hfz48_5 := blk_frozen BK143.out 5; have hfz48_6 := blk_frozen BK143.out 6) | ((with_reducible refine gate_builtin (b := .append) (xs := #[.tmp 51, .tmp 53]) rfl ?_); at_builtin; refine Kd.R_append k28 (w0 := w) w.heap.size rfl (.tmp 51) (.tmp 53) 22 28 (.agg #[(.int .i64 0), (.int .i64 0), (.int .i64 0), (.int .i64 0), (.int .i64 0), (.int .i64 0), (.int .i64 0)]) 56 rfl Try.underlying22 info28 rfl (by decide) (by omega) u9 x9_2 (⟨(rd_T28 l1 x30_2).f0, (rd_T28 l1 x30_2).f1, (rd_T28 l1 x30_2).f2, (rd_T28 l1 x30_2).f3, (rd_T28 l1 x30_2).f4, (rd_T28 l1 x30_2).f5, (rd_T28 l1 x30_2).f6⟩ : S28) [.int .i64 ((rd_T28 l1 x30_2).f0), .int .i64 ((rd_T28 l1 x30_2).f1), .int .i64 ((rd_T28 l1 x30_2).f2), .int .i64 ((rd_T28 l1 x30_2).f3), .int .i64 ((rd_T28 l1 x30_2).f4), .int .i64 ((rd_T28 l1 x30_2).f5), .int .i64 ((rd_T28 l1 x30_2).f6)] (fun k_ => k_ ≠ gb143 ∧ k_ ≠ gb147) (fun _ => False) rfl (by first | (go_simp; done) | (go_simp; rfl)) ?aP (fun _ hk => hk.elim) ?aF ?aO ?aB ?aS ?aL ?_; (case aP => exact k28_mkM _ _ _ (⟨(rd_T28 l1 x30_2).f0, (rd_T28 l1 x30_2).f1, (rd_T28 l1 x30_2).f2, (rd_T28 l1 x30_2).f3, (rd_T28 l1 x30_2).f4, (rd_T28 l1 x30_2).f5, (rd_T28 l1 x30_2).f6⟩ : S28)); (case aB => exact (Mp.BM.b (show Mp.BM Try.prog 52 Mp.pk ev50 mb_ x6_1 w _ from by repeat (first | (with_reducible first | exact HB.out | apply Mp.bm_alloc | apply Mp.bm_drewN | apply Mp.bm_drew1 | refine Mp.bm_set ?_ GE143.out NM143.out | refine Mp.bm_set ?_ GE147.out NM147.out) | exact HB.out)))); (case aF => exact (fun k_ hk => ⟨Kd.freshB (g := gb143) (o := .cells #[.int .i64 ((rd_T28 l1 x30_2).f0), .int .i64 ((rd_T28 l1 x30_2).f1), .int .i64 ((rd_T28 l1 x30_2).f2), .int .i64 ((rd_T28 l1 x30_2).f3), .int .i64 ((rd_T28 l1 x30_2).f4), .int .i64 ((rd_T28 l1 x30_2).f5), .int .i64 ((rd_T28 l1 x30_2).f6)] 28 (0, 0)) (by (with_reducible repeat (first | refine blk_drewN ?_ _ | refine blk_drew ?_ | refine blk_alloc ?_ _)); refine blk_far ?_ NB143_147.out _; (with_reducible repeat (first | refine blk_drewN ?_ _ | refine blk_drew ?_ | refine blk_alloc ?_ _)); refine blk_far ?_ NB143_147.out _; (with_reducible repeat (first | refine blk_drewN ?_ _ | refine blk_drew ?_ | refine blk_alloc ?_ _)); refine blk_far ?_ NB143_147.out _; (with_reducible repeat (first | refine blk_drewN ?_ _ | refine blk_drew ?_ | refine blk_alloc ?_ _)); refine blk_far ?_ NB143_147.out _; (with_reducible repeat (first | refine blk_drewN ?_ _ | refine blk_drew ?_ | refine blk_alloc ?_ _)); refine blk_far ?_ NB143_147.out _; (with_reducible repeat (first | refine blk_drewN ?_ _ | refine blk_drew ?_ | refine blk_alloc ?_ _)); refine blk_far ?_ NB143_147.out _; (with_reducible repeat (first | refine blk_drewN ?_ _ | refine blk_drew ?_ | refine blk_alloc ?_ _)); refine blk_far ?_ NB143_147.out _; (with_reducible repeat (first | refine blk_drewN ?_ _ | refine blk_drew ?_ | refine blk_alloc ?_ _)); exact BK143.out) k_ hk, Kd.freshB (g := gb147) (o := .cells #[.int .i64 0, .int .i64 0, .int .i64 0, .int .i64 0, .int .i64 0, .int .i64 0, .int .i64 0] 28 (0, 0)) (by (with_reducible repeat (first | refine blk_drewN ?_ _ | refine blk_drew ?_ | refine blk_alloc ?_ _)); refine blk_put (cs := #[.int .i64 0, .int .i64 0, .int .i64 0, .int .i64 0, .int .i64 0, .int .i64 0, .int .i64 0]) ?_ 6 _ rfl; (with_reducible repeat (first | refine blk_drewN ?_ _ | refine blk_drew ?_ | refine blk_alloc ?_ _)); refine blk_put (cs := #[.int .i64 0, .int .i64 0, .int .i64 0, .int .i64 0, .int .i64 0, .int .i64 0, .int .i64 0]) ?_ 5 _ rfl; (with_reducible repeat (first | refine blk_drewN ?_ _ | refine blk_drew ?_ | refine blk_alloc ?_ _)); refine blk_put (cs := #[.int .i64 0, .int .i64 0, .int .i64 0, .int .i64 0, .int .i64 0, .int .i64 0, .int .i64 0]) ?_ 4 _ rfl; (with_reducible repeat (first | refine blk_drewN ?_ _ | refine blk_drew ?_ | refine blk_alloc ?_ _)); refine blk_put (cs := #[.int .i64 0, .int .i64 0, .int .i64 0, .int .i64 0, .int .i64 0, .int .i64 0, .int .i64 0]) ?_ 3 _ rfl; (with_reducible repeat (first | refine blk_drewN ?_ _ | refine blk_drew ?_ | refine blk_alloc ?_ _)); refine blk_put (cs := #[.int .i64 0, .int .i64 0, .int .i64 0, .int .i64 0, .int .i64 0, .int .i64 0, .int .i64 0]) ?_ 2 _ rfl; (with_reducible repeat (first | refine blk_drewN ?_ _ | refine blk_drew ?_ | refine blk_alloc ?_ _)); refine blk_put (cs := #[.int .i64 0, .int .i64 0, .int .i64 0, .int .i64 0, .int .i64 0, .int .i64 0, .int .i64 0]) ?_ 1 _ rfl; (with_reducible repeat (first | refine blk_drewN ?_ _ | refine blk_drew ?_ | refine blk_alloc ?_ _)); refine blk_put (cs := #[.int .i64 0, .int .i64 0, .int .i64 0, .int .i64 0, .int .i64 0, .int .i64 0, .int .i64 0]) ?_ 0 _ rfl; (with_reducible repeat (first | refine blk_drewN ?_ _ | refine blk_drew ?_ | refine blk_alloc ?_ _)); exact BK147.out) k_ hk⟩)); (case aO => exact (by (with_reducible repeat (first | apply Kd.R_alloc | apply Kd.R_drewN | apply Kd.R_drew)); exact Kd.R_mono (Kd.R_far (p := ⟨gb147, 6, none⟩) (Kd.R_far (p := ⟨gb147, 5, none⟩) (Kd.R_far (p := ⟨gb147, 4, none⟩) (Kd.R_far (p := ⟨gb147, 3, none⟩) (Kd.R_far (p := ⟨gb147, 2, none⟩) (Kd.R_far (p := ⟨gb147, 1, none⟩) (Kd.R_far (p := ⟨gb147, 0, none⟩) (Kd.R_mono HO_9.out (fun k_ hk => (⟨hk, hk.2⟩ : _ ∧ k_ ≠ gb147))) (fun _ hk => hk.2) (.int .i64 0)) (fun _ hk => hk.2) (.int .i64 0)) (fun _ hk => hk.2) (.int .i64 0)) (fun _ hk => hk.2) (.int .i64 0)) (fun _ hk => hk.2) (.int .i64 0)) (fun _ hk => hk.2) (.int .i64 0)) (fun _ hk => hk.2) (.int .i64 0)) (fun _ hk => ⟨hk.1.1.2, hk.1.2⟩))); (case aS => exact (Mp.bm_size (show Mp.BM Try.prog 52 Mp.pk ev50 mb_ x6_1 w _ from by repeat (first | (with_reducible first | exact HB.out | apply Mp.bm_alloc | apply Mp.bm_drewN | apply Mp.bm_drew1 | refine Mp.bm_set ?_ GE143.out NM143.out | refine Mp.bm_set ?_ GE147.out NM147.out) | exact HB.out)))); (case aL => have := LMc41.out; omega); intro v149 w49 ho hb hg hat; rw [← Ny148.out] at ho; have n0_ := Aside0.mk (blk_grown (g := gb143) (o := .cells #[.int .i64 ((rd_T28 l1 x30_2).f0), .int .i64 ((rd_T28 l1 x30_2).f1), .int .i64 ((rd_T28 l1 x30_2).f2), .int .i64 ((rd_T28 l1 x30_2).f3), .int .i64 ((rd_T28 l1 x30_2).f4), .int .i64 ((rd_T28 l1 x30_2).f5), .int .i64 ((rd_T28 l1 x30_2).f6)] 28 (0, 0)) (by (with_reducible repeat (first | refine blk_drewN ?_ _ | refine blk_drew ?_ | refine blk_alloc ?_ _)); refine blk_far ?_ NB143_147.out _; (with_reducible repeat (first | refine blk_drewN ?_ _ | refine blk_drew ?_ | refine blk_alloc ?_ _)); refine blk_far ?_ NB143_147.out _; (with_reducible repeat (first | refine blk_drewN ?_ _ | refine blk_drew ?_ | refine blk_alloc ?_ _)); refine blk_far ?_ NB143_147.out _; (with_reducible repeat (first | refine blk_drewN ?_ _ | refine blk_drew ?_ | refine blk_alloc ?_ _)); refine blk_far ?_ NB143_147.out _; (with_reducible repeat (first | refine blk_drewN ?_ _ | refine blk_drew ?_ | refine blk_alloc ?_ _)); refine blk_far ?_ NB143_147.out _; (with_reducible repeat (first | refine blk_drewN ?_ _ | refine blk_drew ?_ | refine blk_alloc ?_ _)); refine blk_far ?_ NB143_147.out _; (with_reducible repeat (first | refine blk_drewN ?_ _ | refine blk_drew ?_ | refine blk_alloc ?_ _)); refine blk_far ?_ NB143_147.out _; (with_reducible repeat (first | refine blk_drewN ?_ _ | refine blk_drew ?_ | refine blk_alloc ?_ _)); exact BK143.out) hg (Kd.R_away HO_9.out (fun _ hk => hk.1.2))); have n1_ := Aside0.mk (blk_grown (g := gb147) (o := .cells #[.int .i64 0, .int .i64 0, .int .i64 0, .int .i64 0, .int .i64 0, .int .i64 0, .int .i64 0] 28 (0, 0)) (by (with_reducible repeat (first | refine blk_drewN ?_ _ | refine blk_drew ?_ | refine blk_alloc ?_ _)); refine blk_put (cs := #[.int .i64 0, .int .i64 0, .int .i64 0, .int .i64 0, .int .i64 0, .int .i64 0, .int .i64 0]) ?_ 6 _ rfl; (with_reducible repeat (first | refine blk_drewN ?_ _ | refine blk_drew ?_ | refine blk_alloc ?_ _)); refine blk_put (cs := #[.int .i64 0, .int .i64 0, .int .i64 0, .int .i64 0, .int .i64 0, .int .i64 0, .int .i64 0]) ?_ 5 _ rfl; (with_reducible repeat (first | refine blk_drewN ?_ _ | refine blk_drew ?_ | refine blk_alloc ?_ _)); refine blk_put (cs := #[.int .i64 0, .int .i64 0, .int .i64 0, .int .i64 0, .int .i64 0, .int .i64 0, .int .i64 0]) ?_ 4 _ rfl; (with_reducible repeat (first | refine blk_drewN ?_ _ | refine blk_drew ?_ | refine blk_alloc ?_ _)); refine blk_put (cs := #[.int .i64 0, .int .i64 0, .int .i64 0, .int .i64 0, .int .i64 0, .int .i64 0, .int .i64 0]) ?_ 3 _ rfl; (with_reducible repeat (first | refine blk_drewN ?_ _ | refine blk_drew ?_ | refine blk_alloc ?_ _)); refine blk_put (cs := #[.int .i64 0, .int .i64 0, .int .i64 0, .int .i64 0, .int .i64 0, .int .i64 0, .int .i64 0]) ?_ 2 _ rfl; (with_reducible repeat (first | refine blk_drewN ?_ _ | refine blk_drew ?_ | refine blk_alloc ?_ _)); refine blk_put (cs := #[.int .i64 0, .int .i64 0, .int .i64 0, .int .i64 0, .int .i64 0, .int .i64 0, .int .i64 0]) ?_ 1 _ rfl; (with_reducible repeat (first | refine blk_drewN ?_ _ | refine blk_drew ?_ | refine blk_alloc ?_ _)); refine blk_put (cs := #[.int .i64 0, .int .i64 0, .int .i64 0, .int .i64 0, .int .i64 0, .int .i64 0, .int .i64 0]) ?_ 0 _ rfl; (with_reducible repeat (first | refine blk_drewN ?_ _ | refine blk_drew ?_ | refine blk_alloc ?_ _)); exact BK147.out) hg (Kd.R_away HO_9.out (fun _ hk => hk.2))); have n2_ := Aside0.mk (Mp.bm_grown (show Mp.BM Try.prog 52 Mp.pk ev50 mb_ x6_1 w _ from by repeat (first | (with_reducible first | exact HB.out | apply Mp.bm_alloc | apply Mp.bm_drewN | apply Mp.bm_drew1 | refine Mp.bm_set ?_ GE143.out NM143.out | refine Mp.bm_set ?_ GE147.out NM147.out) | exact HB.out)) hb hg (by first | exact Mp.bm_own_ne HB.out HO_9.out | simp [Value.ownBlock])); have n3_ := Aside0.mk (ho); clear BK143; clear BK147; clear HB; clear HO_9; have BK143 := n0_; have BK147 := n1_; have HB := n2_; have HO150 := n3_; clear n0_ n1_ n2_ n3_; clear ho hb hg hat))
             go_roundg k2
             case measure => have := HK1.out; have := HK2.out; omega
             case rel => exact ⟨(y148), (wrap64 (x30_2 + 1)), (by first | rfl | (simp; done) | (simp [*]; done)), H', ⟨by have := HK1.out; have := HK2.out; omega⟩, ⟨by (with_reducible repeat (first | apply Kd.R_alloc | apply Kd.R_drewN | apply Kd.R_drew)); exact Kd.R_mono HO150.out (fun _ hk => trivial)⟩, ⟨by repeat (first | (with_reducible first | exact HB.out | apply Mp.bm_alloc | apply Mp.bm_drewN | apply Mp.bm_drew1 | refine Mp.bm_set ?_ GE143.out NM143.out | refine Mp.bm_set ?_ GE147.out NM147.out) | exact HB.out)⟩⟩
            ·rw [if_neg c41] at H
             exact absurd H (by simp)
          ·rw [if_neg c24] at H
           exact absurd H (by simp)
         ·rw [if_neg c23] at H
          exact absurd H (by simp)
        ·rw [if_neg c21] at H
         exact absurd H (by simp)
       ·rw [if_neg c20] at H
        exact absurd H (by simp)
      ·rw [if_neg c19] at H
       have c19b0 : decide (x30_2 < (l1.length : Int)) = false := decide_eq_false c19
       clear c19
       by_cases c50 : (x9_2.length : Int) > 2000
       ·rw [if_pos c50] at H
        have c50b0 : decide (2000 < (x9_2.length : Int)) = true := decide_eq_true c50
        have c50b1 : decide (2000 < x9_2.length) = true := decide_eq_true (by omega)
        clear c50
        simp only [Option.some.injEq, Prod.mk.injEq] at H
        obtain ⟨rfl, rfl⟩ := H
        obtain ⟨Ao51, co51, eo51⟩ := Kd.R_slice HO_9.out
        subst eo51
        go_wp2
        go_ret2
        exact ⟨_, by first | rfl | (simp [errW_none, errW_some] <;> rfl) | (simp [*, errW_none, errW_some] <;> rfl), by first | exact Kd.R_nil _ _ _ _ _ | exact Kd.N_nil _ _ _ _ _ | exact Kd.V_nil _ _ _ _ _ | exact Kd.Q_nil _ _ _ _ _ | exact Kd.S_nil _ _ _ _ _, Mp.BM.b (show Mp.BM Try.prog 52 Mp.pk ev50 mb_ x6_1 w _ from by repeat (first | (with_reducible first | exact HB.out | apply Mp.bm_alloc | apply Mp.bm_drewN | apply Mp.bm_drew1) | exact HB.out))⟩
       ·rw [if_neg c50] at H
        have c50b0 : decide (2000 < (x9_2.length : Int)) = false := decide_eq_false c50
        have c50b1 : decide (2000 < x9_2.length) = false := decide_eq_false (by omega)
        clear c50
        replace H := Option.bind_eq_some_iff.mp H
        obtain ⟨t141, A520, H⟩ := H
        replace H : (some (t141, 0)) = some (r1, r2) := H
        have A52 := Aside0.mk A520
        clear A520
        simp only [Option.some.injEq, Prod.mk.injEq] at H
        obtain ⟨rfl, rfl⟩ := H
        obtain ⟨Ao53, co53, eo53⟩ := Kd.R_slice HO_9.out
        subst eo53
        have nb_ := Aside0.mk HB.out.b
        clear HB
        have HB := nb_
        clear nb_
        go_wp2_with (first | ((with_reducible refine gate_callee (f := 34) rfl ?_); refine goesL_ (some 60) rfl rfl Try.func34 (by kernel_rfl) rfl #[.slice Ao53 x9_2.length co53, .func (.func 29) #[] #[]] rfl (by (try simp only [List.map_toArray, List.map_cons, List.map_nil]); first | done | rfl | (simp only [List.length_drop, List.length_take]; rfl)) ?_; (with_reducible refine (rides_order_sort.calls (fun k_ => some k_ = (.slice Ao53 x9_2.length co53 : Value).ownBlock) (.slice Ao53 x9_2.length co53) x9_2  t141 w _ ?side1 ?side2 A52.out).mono ?_); (case side1 => repeat (first | (with_reducible first | exact HB.out | apply below_alloc | apply pw_below_drewN | apply below_drew1) | exact HB.out)); (case side2 => exact Kd.R_tight rfl HO_9.out); rintro e w54 ⟨rfl, hy0, hb, hkp⟩; refine ⟨_, rfl, ?_⟩; have n0_ := Aside0.mk (Kd.R_reok rfl hy0 (fun k_ e_ => HO_9.out.1 k_ e_)); have n1_ := Aside0.mk (hb); clear HO_9; clear HB; have HO_9 := n0_; have HB := n1_; clear n0_ n1_; (try clear hb); (try clear hkp); (try clear hy0)))
        go_ret2
        exact ⟨_, by first | rfl | (simp [errW_none, errW_some] <;> rfl) | (simp [*, errW_none, errW_some] <;> rfl), by (with_reducible repeat (first | apply Kd.R_alloc | apply Kd.R_drewN | apply Kd.R_drew)); exact HO_9.out, by repeat (first | (with_reducible first | exact HB.out | apply below_alloc | apply pw_below_drewN | apply below_drew1) | exact HB.out)⟩

/-! ### rides_Add: function 15 -/
def rides_Add.f (k : Nat) (l0 : List (S28)) (a1_0 : Int) (a1_1 : Int) (a1_2 : Int) (a1_3 : Int) (a1_4 : Int) (a1_5 : Int) (a1_6 : Int) : Option ((List (S28)) × Bool × Int) := (rides_check.f a1_0 a1_1 a1_2 a1_3 a1_4 a1_5 a1_6).bind fun t152 => (if t152 = 0 then ((rides_Merge.f k l0 (([(⟨a1_0, a1_1, a1_2, a1_3, a1_4, a1_5, a1_6⟩ : S28)] : List (S28)))).bind fun bt156 => (if bt156.2 = 0 then (some (bt156.1, decide ((bt156.1.length : Int) > (l0.length : Int)), 0)) else (some (([] : List (S28)), false, bt156.2)))) else (some (([] : List (S28)), false, t152)))
theorem rides_Add.mono : ∀ a0 a1 a2 a3 a4 a5 a6 a7 k, LeO (rides_Add.f k a0 a1 a2 a3 a4 a5 a6 a7) (rides_Add.f (k + 1) a0 a1 a2 a3 a4 a5 a6 a7) := by
 intro a0 a1 a2 a3 a4 a5 a6 a7 k
 unfold rides_Add.f
 repeat' first
   | (with_reducible exact rides_Merge.mono _ _ _)
   | (with_reducible exact LeO.refl _)
   | (with_reducible exact LeO.none _)
   | (with_reducible refine LeO.ite ?_ ?_)
   | (with_reducible refine LeO.bind ?_ (fun _ => ?_))
   | exact rides_Merge.mono _ _ _
   | exact LeO.none _
   | refine LeO.ite ?_ ?_
   | refine LeO.bind ?_ (fun _ => ?_)
set_option maxHeartbeats 8000000 in
set_option maxRecDepth 100000 in
theorem rides_Add.calls (k : Nat) (A0 : Option Addr) (c0 : Nat) (l0 : List (S28)) (a1_0 : Int) (a1_1 : Int) (a1_2 : Int) (a1_3 : Int) (a1_4 : Int) (a1_5 : Int) (a1_6 : Int) (r1 : List (S28)) (r2 : Bool) (r3 : Int) (w : World) (hr0 : Kd.C k28 w A0 l0.length l0) (hc0 : l0.length ≤ c0) (h : rides_Add.f k l0 a1_0 a1_1 a1_2 a1_3 a1_4 a1_5 a1_6 = some (r1, r2, r3)) :
  Calls Try.prog 15 #[.slice A0 l0.length c0, .agg #[.int .i64 a1_0, .int .i64 a1_1, .int .i64 a1_2, .int .i64 a1_3, .int .i64 a1_4, .int .i64 a1_5, .int .i64 a1_6]] w fun e w' => ∃ v0_ : Value, e = .returned (.tuple #[v0_, .bool r2, .int .i64 r3]) ∧ Kd.R k28 28 w' w.heap.size (fun _ => True) v0_ r1 ∧ Below w.heap.size w w' := by
 have hu28 := Try.underlying28
 have HR0 := Aside0.mk hr0
 have HC0 := Aside0.mk hc0
 clear hr0 hc0
 have HB := Aside0.mk (Below.refl w.heap.size w)
 have H : ((rides_check.f a1_0 a1_1 a1_2 a1_3 a1_4 a1_5 a1_6).bind fun t152 => (if t152 = 0 then ((rides_Merge.f k l0 (([(⟨a1_0, a1_1, a1_2, a1_3, a1_4, a1_5, a1_6⟩ : S28)] : List (S28)))).bind fun bt156 => (if bt156.2 = 0 then (some (bt156.1, decide ((bt156.1.length : Int) > (l0.length : Int)), 0)) else (some (([] : List (S28)), false, bt156.2)))) else (some (([] : List (S28)), false, t152)))) = some (r1, r2, r3) := h
 clear h
 replace H := Option.bind_eq_some_iff.mp H
 obtain ⟨t152, A30, H⟩ := H
 replace H : (if t152 = 0 then ((rides_Merge.f k l0 (([(⟨a1_0, a1_1, a1_2, a1_3, a1_4, a1_5, a1_6⟩ : S28)] : List (S28)))).bind fun bt156 => (if bt156.2 = 0 then (some (bt156.1, decide ((bt156.1.length : Int) > (l0.length : Int)), 0)) else (some (([] : List (S28)), false, bt156.2)))) else (some (([] : List (S28)), false, t152))) = some (r1, r2, r3) := H
 have A3 := Aside0.mk A30
 clear A30
 by_cases c4 : t152 = 0
 ·rw [if_pos c4] at H
  have c4b0 : (t152 == 0) = true := beq_iff_eq.mpr c4
  have c4b1 : (t152 != 0) = false := bne_eq_false_iff_eq.mpr c4
  clear c4
  obtain ⟨y153, hy153⟩ : ∃ y_ : List (S28), y_ = (([(⟨a1_0, a1_1, a1_2, a1_3, a1_4, a1_5, a1_6⟩ : S28)] : List (S28))) := ⟨_, rfl⟩
  replace H : ((rides_Merge.f k l0 y153).bind fun bt156 => (if bt156.2 = 0 then (some (bt156.1, decide ((bt156.1.length : Int) > (l0.length : Int)), 0)) else (some (([] : List (S28)), false, bt156.2)))) = some (r1, r2, r3) := by first | (rw [hy153]; with_reducible exact H) | (have H2_ := (Option.bind_some _ _).symm.trans H; rw [hy153]; with_reducible exact H2_) | (have H2_ := (Option.bind_some _ _).symm.trans H; with_reducible exact H2_) | with_reducible exact H | (rw [hy153]; exact H) | exact H
  have Ny153 := Aside0.mk hy153
  clear hy153
  replace H := Option.bind_eq_some_iff.mp H
  obtain ⟨⟨t156, t157⟩, A50, H⟩ := H
  replace H : (if t157 = 0 then (some (t156, decide ((t156.length : Int) > (l0.length : Int)), 0)) else (some (([] : List (S28)), false, t157))) = some (r1, r2, r3) := H
  have A5 := Aside0.mk A50
  clear A50
  by_cases c6 : t157 = 0
  ·rw [if_pos c6] at H
   have c6b0 : (t157 == 0) = true := beq_iff_eq.mpr c6
   have c6b1 : (t157 != 0) = false := bne_eq_false_iff_eq.mpr c6
   clear c6
   simp only [Option.some.injEq, Prod.mk.injEq] at H
   obtain ⟨rfl, rfl, rfl⟩ := H
   go_enter Try.func15, Try.ntmps15
   go_wp2_with (first | ((with_reducible refine gate_dst (N := 3) rfl ?_); refine box_event ?hg (N := 3) ?hd (cs := #[.int .i64 a1_0, .int .i64 a1_1, .int .i64 a1_2, .int .i64 a1_3, .int .i64 a1_4, .int .i64 a1_5, .int .i64 a1_6]) (t := 28) ?hr ?_; (case hd => rfl); (case hg => rfl); (case hr => first | (go_simp; done) | (go_simp; rfl)); intro gb151 hg w7 hbox hb; have n0_ := Aside0.mk (below_step (by repeat (first | (with_reducible first | exact HB.out | apply below_alloc | apply pw_below_drewN | apply below_drew1) | exact HB.out)) hb); have n1_ := Aside0.mk (hbox); have n2_ := Aside0.mk ((by rw [hg]; exact (below_size (by repeat (first | (with_reducible first | exact HB.out | apply below_alloc | apply pw_below_drewN | apply below_drew1) | exact HB.out))) : w.heap.size ≤ gb151)); have n3_ := Aside0.mk ((by rw [hg]; exact (below_size (by repeat (first | (with_reducible first | exact HB.out | apply below_alloc | apply pw_below_drewN | apply below_drew1) | exact HB.out))) : w.heap.size ≤ gb151)); clear HB; have HB := n0_; have BK151 := n1_; have GW151 := n2_; have GE151 := n3_; clear n0_ n1_ n2_ n3_; clear hb hbox hg; have hcz8_0 : w7.cell? ⟨gb151, 0, none⟩ = some (.int .i64 a1_0) := (blk_cell BK151.out 0).trans rfl; have hcz8_1 : w7.cell? ⟨gb151, 1, none⟩ = some (.int .i64 a1_1) := (blk_cell BK151.out 1).trans rfl; have hcz8_2 : w7.cell? ⟨gb151, 2, none⟩ = some (.int .i64 a1_2) := (blk_cell BK151.out 2).trans rfl; have hcz8_3 : w7.cell? ⟨gb151, 3, none⟩ = some (.int .i64 a1_3) := (blk_cell BK151.out 3).trans rfl; have hcz8_4 : w7.cell? ⟨gb151, 4, none⟩ = some (.int .i64 a1_4) := (blk_cell BK151.out 4).trans rfl; have hcz8_5 : w7.cell? ⟨gb151, 5, none⟩ = some (.int .i64 a1_5) := (blk_cell BK151.out 5).trans rfl; have hcz8_6 : w7.cell? ⟨gb151, 6, none⟩ = some (.int .i64 a1_6) := (blk_cell BK151.out 6).trans rfl; have hfz8_0 := blk_frozen BK151.out 0; have hfz8_1 := blk_frozen BK151.out 1; have hfz8_2 := blk_frozen BK151.out 2; have hfz8_3 := blk_frozen BK151.out 3; have hfz8_4 := blk_frozen BK151.out 4; have hfz8_5 := blk_frozen BK151.out 5; have hfz8_6 := blk_frozen BK151.out 6) | ((with_reducible refine gate_callee (f := 28) rfl ?_); refine goesL_ (some 11) rfl rfl Try.func28 (by kernel_rfl) rfl #[.agg #[.int .i64 a1_0, .int .i64 a1_1, .int .i64 a1_2, .int .i64 a1_3, .int .i64 a1_4, .int .i64 a1_5, .int .i64 a1_6]] rfl (by (try simp only [List.map_toArray, List.map_cons, List.map_nil]); first | done | rfl | (simp only [List.length_drop, List.length_take]; rfl)) ?_; (with_reducible refine (rides_check.calls a1_0 a1_1 a1_2 a1_3 a1_4 a1_5 a1_6 t152 _ A3.out).mono ?_); rintro e w9 ⟨rfl, hb⟩; refine ⟨_, rfl, ?_⟩; have n0_ := Aside0.mk (blk_below (g := gb151) (o := .cells #[.int .i64 a1_0, .int .i64 a1_1, .int .i64 a1_2, .int .i64 a1_3, .int .i64 a1_4, .int .i64 a1_5, .int .i64 a1_6] 28 (0, 0)) (by (with_reducible repeat (first | refine blk_drewN ?_ _ | refine blk_drew ?_ | refine blk_alloc ?_ _)); exact BK151.out) hb); have n1_ := Aside0.mk (below_step (by repeat (first | (with_reducible first | exact HB.out | apply below_alloc | apply pw_below_drewN | apply below_drew1 | refine below_set ?_ GE151.out) | exact HB.out)) hb); clear BK151; clear HB; have BK151 := n0_; have HB := n1_; clear n0_ n1_; (try clear hb); (try clear hb2); (try clear hk); (try clear hi); have hcz10_0 : w9.cell? ⟨gb151, 0, none⟩ = some (.int .i64 a1_0) := (blk_cell BK151.out 0).trans rfl; have hcz10_1 : w9.cell? ⟨gb151, 1, none⟩ = some (.int .i64 a1_1) := (blk_cell BK151.out 1).trans rfl; have hcz10_2 : w9.cell? ⟨gb151, 2, none⟩ = some (.int .i64 a1_2) := (blk_cell BK151.out 2).trans rfl; have hcz10_3 : w9.cell? ⟨gb151, 3, none⟩ = some (.int .i64 a1_3) := (blk_cell BK151.out 3).trans rfl; have hcz10_4 : w9.cell? ⟨gb151, 4, none⟩ = some (.int .i64 a1_4) := (blk_cell BK151.out 4).trans rfl; have hcz10_5 : w9.cell? ⟨gb151, 5, none⟩ = some (.int .i64 a1_5) := (blk_cell BK151.out 5).trans rfl; have hcz10_6 : w9.cell? ⟨gb151, 6, none⟩ = some (.int .i64 a1_6) := (blk_cell BK151.out 6).trans rfl; have hfz10_0 := blk_frozen BK151.out 0; have hfz10_1 := blk_frozen BK151.out 1; have hfz10_2 := blk_frozen BK151.out 2; have hfz10_3 := blk_frozen BK151.out 3; have hfz10_4 := blk_frozen BK151.out 4; have hfz10_5 := blk_frozen BK151.out 5; have hfz10_6 := blk_frozen BK151.out 6) | ((with_reducible refine gate_dst (N := 18) rfl ?_); refine Kd.R_lit k28 _ 28 ?hg (N := 18) ?hd (xs := ([(⟨a1_0, a1_1, a1_2, a1_3, a1_4, a1_5, a1_6⟩ : S28)] : List (S28))) (inner := [.int .i64 a1_0, .int .i64 a1_1, .int .i64 a1_2, .int .i64 a1_3, .int .i64 a1_4, .int .i64 a1_5, .int .i64 a1_6]) (ok := fun _ => True) (okp := fun _ => True) ?hr ?hp (fun _ hk => hk) trivial (Below.refl _ _) (Nat.le_refl _) (by simp) ?_; (case hd => rfl); (case hg => rfl); (case hr => first | (go_simp; done) | (go_simp; rfl)); (case hp => exact (Reps.c7 (show Kd.M k28 _ _ _ (⟨a1_0, a1_1, a1_2, a1_3, a1_4, a1_5, a1_6⟩ : S28) [.int .i64 a1_0, .int .i64 a1_1, .int .i64 a1_2, .int .i64 a1_3, .int .i64 a1_4, .int .i64 a1_5, .int .i64 a1_6] from (k28_mkM _ _ _ (⟨a1_0, a1_1, a1_2, a1_3, a1_4, a1_5, a1_6⟩ : S28) )) (Reps.none _ _))); intro v154 w11 ho12 hb hg_ hnew_; clear hg_ hnew_; (first | rw [← Ny153.out] at ho12 | (simp only [Int.reduceToNat] at ho12; rw [← Ny153.out] at ho12)); have n0_ := Aside0.mk (Kd.R_lower (Kd.R_newB ho12 (g := gb151) (o := .cells #[.int .i64 a1_0, .int .i64 a1_1, .int .i64 a1_2, .int .i64 a1_3, .int .i64 a1_4, .int .i64 a1_5, .int .i64 a1_6] 28 (0, 0)) (by (with_reducible repeat (first | refine blk_drewN ?_ _ | refine blk_drew ?_ | refine blk_alloc ?_ _)); exact BK151.out)) (below_size (by repeat (first | (with_reducible first | exact HB.out | apply below_alloc | apply pw_below_drewN | apply below_drew1 | refine below_set ?_ GE151.out) | exact HB.out)))); have n1_ := Aside0.mk (blk_below (g := gb151) (o := .cells #[.int .i64 a1_0, .int .i64 a1_1, .int .i64 a1_2, .int .i64 a1_3, .int .i64 a1_4, .int .i64 a1_5, .int .i64 a1_6] 28 (0, 0)) (by (with_reducible repeat (first | refine blk_drewN ?_ _ | refine blk_drew ?_ | refine blk_alloc ?_ _)); exact BK151.out) hb); have n2_ := Aside0.mk (below_step (by repeat (first | (with_reducible first | exact HB.out | apply below_alloc | apply pw_below_drewN | apply below_drew1 | refine below_set ?_ GE151.out) | exact HB.out)) hb); clear BK151; clear HB; have HO155 := n0_; have BK151 := n1_; have HB := n2_; clear n0_ n1_ n2_; clear hb ho12; obtain ⟨Ao13, co13, eo13⟩ := Kd.R_slice HO155.out; subst eo13) | ((with_reducible refine gate_callee (f := 18) rfl ?_); refine goesL_ (some 19) rfl rfl Try.func18 (by kernel_rfl) rfl #[.slice A0 l0.length c0, .slice Ao13 y153.length co13] rfl (by (try simp only [List.map_toArray, List.map_cons, List.map_nil]); first | done | rfl | (simp only [List.length_drop, List.length_take]; rfl)) ?_; (with_reducible refine (rides_Merge.calls k _ _ l0 _ _ y153 t156 t157 _ ?side1 ?side2 ?side3 ?side4 A5.out).mono ?_); (case side1 => repeat (first | exact (Kd.C_below HR0.out HB.out) | (with_reducible refine Kd.C_alloc ?_ _) | (with_reducible refine Kd.C_drewN ?_ _) | (with_reducible refine Kd.C_drew ?_))); (case side2 => exact HC0.out); (case side3 => repeat (first | exact (Kd.R_reads' HO155.out).2.2 | (with_reducible refine Kd.C_alloc ?_ _) | (with_reducible refine Kd.C_drewN ?_ _) | (with_reducible refine Kd.C_drew ?_))); (case side4 => exact (Kd.R_reads' HO155.out).2.1); rintro e w14 ⟨v158, rfl, ho0, hb⟩; refine ⟨_, rfl, ?_⟩; have n0_ := Aside0.mk (Kd.R_elder' (by (with_reducible repeat (first | apply Kd.R_alloc | apply Kd.R_drewN | apply Kd.R_drew)); exact HO155.out) (Kd.R_base ho0) hb); have n1_ := Aside0.mk (Kd.R_lower (Kd.R_newB (Kd.R_new' ho0 (Kd.R_lt (by (with_reducible repeat (first | apply Kd.R_alloc | apply Kd.R_drewN | apply Kd.R_drew)); exact HO155.out))) (g := gb151) (o := .cells #[.int .i64 a1_0, .int .i64 a1_1, .int .i64 a1_2, .int .i64 a1_3, .int .i64 a1_4, .int .i64 a1_5, .int .i64 a1_6] 28 (0, 0)) (by (with_reducible repeat (first | refine blk_drewN ?_ _ | refine blk_drew ?_ | refine blk_alloc ?_ _)); exact BK151.out)) (below_size (by repeat (first | (with_reducible first | exact HB.out | apply below_alloc | apply pw_below_drewN | apply below_drew1 | refine below_set ?_ GE151.out) | exact HB.out)))); have n2_ := Aside0.mk (blk_below (g := gb151) (o := .cells #[.int .i64 a1_0, .int .i64 a1_1, .int .i64 a1_2, .int .i64 a1_3, .int .i64 a1_4, .int .i64 a1_5, .int .i64 a1_6] 28 (0, 0)) (by (with_reducible repeat (first | refine blk_drewN ?_ _ | refine blk_drew ?_ | refine blk_alloc ?_ _)); exact BK151.out) hb); have n3_ := Aside0.mk (below_step (by repeat (first | (with_reducible first | exact HB.out | apply below_alloc | apply pw_below_drewN | apply below_drew1 | refine below_set ?_ GE151.out) | exact HB.out)) hb); clear HO155; clear BK151; clear HB; have HO155 := n0_; have HO159 := n1_; have BK151 := n2_; have HB := n3_; clear n0_ n1_ n2_ n3_; (try clear hb); (try clear hb2); (try clear hk); (try clear hi); (try clear ho0); obtain ⟨Ao15, co15, eo15⟩ := Kd.R_slice HO159.out; subst eo15))
   go_ret3
   exact ⟨_, by first | rfl | (simp [errW_none, errW_some] <;> rfl) | (simp [*, errW_none, errW_some] <;> rfl), by (with_reducible repeat (first | apply Kd.R_alloc | apply Kd.R_drewN | apply Kd.R_drew)); exact Kd.R_mono HO159.out (fun _ hk => trivial), by repeat (first | (with_reducible first | exact HB.out | apply below_alloc | apply pw_below_drewN | apply below_drew1 | refine below_set ?_ GE151.out) | exact HB.out)⟩
  ·rw [if_neg c6] at H
   have c6b0 : (t157 == 0) = false := beq_eq_false_iff_ne.mpr c6
   have c6b1 : (t157 != 0) = true := bne_iff_ne.mpr c6
   simp only [Option.some.injEq, Prod.mk.injEq] at H
   obtain ⟨rfl, rfl, rfl⟩ := H
   go_enter Try.func15, Try.ntmps15
   go_wp2_with (first | ((with_reducible refine gate_dst (N := 3) rfl ?_); refine box_event ?hg (N := 3) ?hd (cs := #[.int .i64 a1_0, .int .i64 a1_1, .int .i64 a1_2, .int .i64 a1_3, .int .i64 a1_4, .int .i64 a1_5, .int .i64 a1_6]) (t := 28) ?hr ?_; (case hd => rfl); (case hg => rfl); (case hr => first | (go_simp; done) | (go_simp; rfl)); intro gb151 hg w16 hbox hb; have n0_ := Aside0.mk (below_step (by repeat (first | (with_reducible first | exact HB.out | apply below_alloc | apply pw_below_drewN | apply below_drew1) | exact HB.out)) hb); have n1_ := Aside0.mk (hbox); have n2_ := Aside0.mk ((by rw [hg]; exact (below_size (by repeat (first | (with_reducible first | exact HB.out | apply below_alloc | apply pw_below_drewN | apply below_drew1) | exact HB.out))) : w.heap.size ≤ gb151)); have n3_ := Aside0.mk ((by rw [hg]; exact (below_size (by repeat (first | (with_reducible first | exact HB.out | apply below_alloc | apply pw_below_drewN | apply below_drew1) | exact HB.out))) : w.heap.size ≤ gb151)); clear HB; have HB := n0_; have BK151 := n1_; have GW151 := n2_; have GE151 := n3_; clear n0_ n1_ n2_ n3_; clear hb hbox hg; have hcz17_0 : w16.cell? ⟨gb151, 0, none⟩ = some (.int .i64 a1_0) := (blk_cell BK151.out 0).trans rfl; have hcz17_1 : w16.cell? ⟨gb151, 1, none⟩ = some (.int .i64 a1_1) := (blk_cell BK151.out 1).trans rfl; have hcz17_2 : w16.cell? ⟨gb151, 2, none⟩ = some (.int .i64 a1_2) := (blk_cell BK151.out 2).trans rfl; have hcz17_3 : w16.cell? ⟨gb151, 3, none⟩ = some (.int .i64 a1_3) := (blk_cell BK151.out 3).trans rfl; have hcz17_4 : w16.cell? ⟨gb151, 4, none⟩ = some (.int .i64 a1_4) := (blk_cell BK151.out 4).trans rfl; have hcz17_5 : w16.cell? ⟨gb151, 5, none⟩ = some (.int .i64 a1_5) := (blk_cell BK151.out 5).trans rfl; have hcz17_6 : w16.cell? ⟨gb151, 6, none⟩ = some (.int .i64 a1_6) := (blk_cell BK151.out 6).trans rfl; have hfz17_0 := blk_frozen BK151.out 0; have hfz17_1 := blk_frozen BK151.out 1; have hfz17_2 := blk_frozen BK151.out 2; have hfz17_3 := blk_frozen BK151.out 3; have hfz17_4 := blk_frozen BK151.out 4; have hfz17_5 := blk_frozen BK151.out 5; have hfz17_6 := blk_frozen BK151.out 6) | ((with_reducible refine gate_callee (f := 28) rfl ?_); refine goesL_ (some 11) rfl rfl Try.func28 (by kernel_rfl) rfl #[.agg #[.int .i64 a1_0, .int .i64 a1_1, .int .i64 a1_2, .int .i64 a1_3, .int .i64 a1_4, .int .i64 a1_5, .int .i64 a1_6]] rfl (by (try simp only [List.map_toArray, List.map_cons, List.map_nil]); first | done | rfl | (simp only [List.length_drop, List.length_take]; rfl)) ?_; (with_reducible refine (rides_check.calls a1_0 a1_1 a1_2 a1_3 a1_4 a1_5 a1_6 t152 _ A3.out).mono ?_); rintro e w18 ⟨rfl, hb⟩; refine ⟨_, rfl, ?_⟩; have n0_ := Aside0.mk (blk_below (g := gb151) (o := .cells #[.int .i64 a1_0, .int .i64 a1_1, .int .i64 a1_2, .int .i64 a1_3, .int .i64 a1_4, .int .i64 a1_5, .int .i64 a1_6] 28 (0, 0)) (by (with_reducible repeat (first | refine blk_drewN ?_ _ | refine blk_drew ?_ | refine blk_alloc ?_ _)); exact BK151.out) hb); have n1_ := Aside0.mk (below_step (by repeat (first | (with_reducible first | exact HB.out | apply below_alloc | apply pw_below_drewN | apply below_drew1 | refine below_set ?_ GE151.out) | exact HB.out)) hb); clear BK151; clear HB; have BK151 := n0_; have HB := n1_; clear n0_ n1_; (try clear hb); (try clear hb2); (try clear hk); (try clear hi); have hcz19_0 : w18.cell? ⟨gb151, 0, none⟩ = some (.int .i64 a1_0) := (blk_cell BK151.out 0).trans rfl; have hcz19_1 : w18.cell? ⟨gb151, 1, none⟩ = some (.int .i64 a1_1) := (blk_cell BK151.out 1).trans rfl; have hcz19_2 : w18.cell? ⟨gb151, 2, none⟩ = some (.int .i64 a1_2) := (blk_cell BK151.out 2).trans rfl; have hcz19_3 : w18.cell? ⟨gb151, 3, none⟩ = some (.int .i64 a1_3) := (blk_cell BK151.out 3).trans rfl; have hcz19_4 : w18.cell? ⟨gb151, 4, none⟩ = some (.int .i64 a1_4) := (blk_cell BK151.out 4).trans rfl; have hcz19_5 : w18.cell? ⟨gb151, 5, none⟩ = some (.int .i64 a1_5) := (blk_cell BK151.out 5).trans rfl; have hcz19_6 : w18.cell? ⟨gb151, 6, none⟩ = some (.int .i64 a1_6) := (blk_cell BK151.out 6).trans rfl; have hfz19_0 := blk_frozen BK151.out 0; have hfz19_1 := blk_frozen BK151.out 1; have hfz19_2 := blk_frozen BK151.out 2; have hfz19_3 := blk_frozen BK151.out 3; have hfz19_4 := blk_frozen BK151.out 4; have hfz19_5 := blk_frozen BK151.out 5; have hfz19_6 := blk_frozen BK151.out 6) | ((with_reducible refine gate_dst (N := 18) rfl ?_); refine Kd.R_lit k28 _ 28 ?hg (N := 18) ?hd (xs := ([(⟨a1_0, a1_1, a1_2, a1_3, a1_4, a1_5, a1_6⟩ : S28)] : List (S28))) (inner := [.int .i64 a1_0, .int .i64 a1_1, .int .i64 a1_2, .int .i64 a1_3, .int .i64 a1_4, .int .i64 a1_5, .int .i64 a1_6]) (ok := fun _ => True) (okp := fun _ => True) ?hr ?hp (fun _ hk => hk) trivial (Below.refl _ _) (Nat.le_refl _) (by simp) ?_; (case hd => rfl); (case hg => rfl); (case hr => first | (go_simp; done) | (go_simp; rfl)); (case hp => exact (Reps.c7 (show Kd.M k28 _ _ _ (⟨a1_0, a1_1, a1_2, a1_3, a1_4, a1_5, a1_6⟩ : S28) [.int .i64 a1_0, .int .i64 a1_1, .int .i64 a1_2, .int .i64 a1_3, .int .i64 a1_4, .int .i64 a1_5, .int .i64 a1_6] from (k28_mkM _ _ _ (⟨a1_0, a1_1, a1_2, a1_3, a1_4, a1_5, a1_6⟩ : S28) )) (Reps.none _ _))); intro v154 w20 ho21 hb hg_ hnew_; clear hg_ hnew_; (first | rw [← Ny153.out] at ho21 | (simp only [Int.reduceToNat] at ho21; rw [← Ny153.out] at ho21)); have n0_ := Aside0.mk (Kd.R_lower (Kd.R_newB ho21 (g := gb151) (o := .cells #[.int .i64 a1_0, .int .i64 a1_1, .int .i64 a1_2, .int .i64 a1_3, .int .i64 a1_4, .int .i64 a1_5, .int .i64 a1_6] 28 (0, 0)) (by (with_reducible repeat (first | refine blk_drewN ?_ _ | refine blk_drew ?_ | refine blk_alloc ?_ _)); exact BK151.out)) (below_size (by repeat (first | (with_reducible first | exact HB.out | apply below_alloc | apply pw_below_drewN | apply below_drew1 | refine below_set ?_ GE151.out) | exact HB.out)))); have n1_ := Aside0.mk (blk_below (g := gb151) (o := .cells #[.int .i64 a1_0, .int .i64 a1_1, .int .i64 a1_2, .int .i64 a1_3, .int .i64 a1_4, .int .i64 a1_5, .int .i64 a1_6] 28 (0, 0)) (by (with_reducible repeat (first | refine blk_drewN ?_ _ | refine blk_drew ?_ | refine blk_alloc ?_ _)); exact BK151.out) hb); have n2_ := Aside0.mk (below_step (by repeat (first | (with_reducible first | exact HB.out | apply below_alloc | apply pw_below_drewN | apply below_drew1 | refine below_set ?_ GE151.out) | exact HB.out)) hb); clear BK151; clear HB; have HO155 := n0_; have BK151 := n1_; have HB := n2_; clear n0_ n1_ n2_; clear hb ho21; obtain ⟨Ao22, co22, eo22⟩ := Kd.R_slice HO155.out; subst eo22) | ((with_reducible refine gate_callee (f := 18) rfl ?_); refine goesL_ (some 19) rfl rfl Try.func18 (by kernel_rfl) rfl #[.slice A0 l0.length c0, .slice Ao22 y153.length co22] rfl (by (try simp only [List.map_toArray, List.map_cons, List.map_nil]); first | done | rfl | (simp only [List.length_drop, List.length_take]; rfl)) ?_; (with_reducible refine (rides_Merge.calls k _ _ l0 _ _ y153 t156 t157 _ ?side1 ?side2 ?side3 ?side4 A5.out).mono ?_); (case side1 => repeat (first | exact (Kd.C_below HR0.out HB.out) | (with_reducible refine Kd.C_alloc ?_ _) | (with_reducible refine Kd.C_drewN ?_ _) | (with_reducible refine Kd.C_drew ?_))); (case side2 => exact HC0.out); (case side3 => repeat (first | exact (Kd.R_reads' HO155.out).2.2 | (with_reducible refine Kd.C_alloc ?_ _) | (with_reducible refine Kd.C_drewN ?_ _) | (with_reducible refine Kd.C_drew ?_))); (case side4 => exact (Kd.R_reads' HO155.out).2.1); rintro e w23 ⟨v158, rfl, ho0, hb⟩; refine ⟨_, rfl, ?_⟩; have n0_ := Aside0.mk (Kd.R_elder' (by (with_reducible repeat (first | apply Kd.R_alloc | apply Kd.R_drewN | apply Kd.R_drew)); exact HO155.out) (Kd.R_base ho0) hb); have n1_ := Aside0.mk (Kd.R_lower (Kd.R_newB (Kd.R_new' ho0 (Kd.R_lt (by (with_reducible repeat (first | apply Kd.R_alloc | apply Kd.R_drewN | apply Kd.R_drew)); exact HO155.out))) (g := gb151) (o := .cells #[.int .i64 a1_0, .int .i64 a1_1, .int .i64 a1_2, .int .i64 a1_3, .int .i64 a1_4, .int .i64 a1_5, .int .i64 a1_6] 28 (0, 0)) (by (with_reducible repeat (first | refine blk_drewN ?_ _ | refine blk_drew ?_ | refine blk_alloc ?_ _)); exact BK151.out)) (below_size (by repeat (first | (with_reducible first | exact HB.out | apply below_alloc | apply pw_below_drewN | apply below_drew1 | refine below_set ?_ GE151.out) | exact HB.out)))); have n2_ := Aside0.mk (blk_below (g := gb151) (o := .cells #[.int .i64 a1_0, .int .i64 a1_1, .int .i64 a1_2, .int .i64 a1_3, .int .i64 a1_4, .int .i64 a1_5, .int .i64 a1_6] 28 (0, 0)) (by (with_reducible repeat (first | refine blk_drewN ?_ _ | refine blk_drew ?_ | refine blk_alloc ?_ _)); exact BK151.out) hb); have n3_ := Aside0.mk (below_step (by repeat (first | (with_reducible first | exact HB.out | apply below_alloc | apply pw_below_drewN | apply below_drew1 | refine below_set ?_ GE151.out) | exact HB.out)) hb); clear HO155; clear BK151; clear HB; have HO155 := n0_; have HO159 := n1_; have BK151 := n2_; have HB := n3_; clear n0_ n1_ n2_ n3_; (try clear hb); (try clear hb2); (try clear hk); (try clear hi); (try clear ho0)))
   go_ret3
   exact ⟨_, by first | rfl | (simp [errW_none, errW_some] <;> rfl) | (simp [*, errW_none, errW_some] <;> rfl), by first | exact Kd.R_nil _ _ _ _ _ | exact Kd.N_nil _ _ _ _ _ | exact Kd.V_nil _ _ _ _ _ | exact Kd.Q_nil _ _ _ _ _ | exact Kd.S_nil _ _ _ _ _, by repeat (first | (with_reducible first | exact HB.out | apply below_alloc | apply pw_below_drewN | apply below_drew1 | refine below_set ?_ GE151.out) | exact HB.out)⟩
 ·rw [if_neg c4] at H
  have c4b0 : (t152 == 0) = false := beq_eq_false_iff_ne.mpr c4
  have c4b1 : (t152 != 0) = true := bne_iff_ne.mpr c4
  simp only [Option.some.injEq, Prod.mk.injEq] at H
  obtain ⟨rfl, rfl, rfl⟩ := H
  go_enter Try.func15, Try.ntmps15
  go_wp2_with (first | ((with_reducible refine gate_dst (N := 3) rfl ?_); refine box_event ?hg (N := 3) ?hd (cs := #[.int .i64 a1_0, .int .i64 a1_1, .int .i64 a1_2, .int .i64 a1_3, .int .i64 a1_4, .int .i64 a1_5, .int .i64 a1_6]) (t := 28) ?hr ?_; (case hd => rfl); (case hg => rfl); (case hr => first | (go_simp; done) | (go_simp; rfl)); intro gb151 hg w24 hbox hb; have n0_ := Aside0.mk (below_step (by repeat (first | (with_reducible first | exact HB.out | apply below_alloc | apply pw_below_drewN | apply below_drew1) | exact HB.out)) hb); have n1_ := Aside0.mk (hbox); have n2_ := Aside0.mk ((by rw [hg]; exact (below_size (by repeat (first | (with_reducible first | exact HB.out | apply below_alloc | apply pw_below_drewN | apply below_drew1) | exact HB.out))) : w.heap.size ≤ gb151)); have n3_ := Aside0.mk ((by rw [hg]; exact (below_size (by repeat (first | (with_reducible first | exact HB.out | apply below_alloc | apply pw_below_drewN | apply below_drew1) | exact HB.out))) : w.heap.size ≤ gb151)); clear HB; have HB := n0_; have BK151 := n1_; have GW151 := n2_; have GE151 := n3_; clear n0_ n1_ n2_ n3_; clear hb hbox hg; have hcz25_0 : w24.cell? ⟨gb151, 0, none⟩ = some (.int .i64 a1_0) := (blk_cell BK151.out 0).trans rfl; have hcz25_1 : w24.cell? ⟨gb151, 1, none⟩ = some (.int .i64 a1_1) := (blk_cell BK151.out 1).trans rfl; have hcz25_2 : w24.cell? ⟨gb151, 2, none⟩ = some (.int .i64 a1_2) := (blk_cell BK151.out 2).trans rfl; have hcz25_3 : w24.cell? ⟨gb151, 3, none⟩ = some (.int .i64 a1_3) := (blk_cell BK151.out 3).trans rfl; have hcz25_4 : w24.cell? ⟨gb151, 4, none⟩ = some (.int .i64 a1_4) := (blk_cell BK151.out 4).trans rfl; have hcz25_5 : w24.cell? ⟨gb151, 5, none⟩ = some (.int .i64 a1_5) := (blk_cell BK151.out 5).trans rfl; have hcz25_6 : w24.cell? ⟨gb151, 6, none⟩ = some (.int .i64 a1_6) := (blk_cell BK151.out 6).trans rfl; have hfz25_0 := blk_frozen BK151.out 0; have hfz25_1 := blk_frozen BK151.out 1; have hfz25_2 := blk_frozen BK151.out 2; have hfz25_3 := blk_frozen BK151.out 3; have hfz25_4 := blk_frozen BK151.out 4; have hfz25_5 := blk_frozen BK151.out 5; have hfz25_6 := blk_frozen BK151.out 6) | ((with_reducible refine gate_callee (f := 28) rfl ?_); refine goesL_ (some 11) rfl rfl Try.func28 (by kernel_rfl) rfl #[.agg #[.int .i64 a1_0, .int .i64 a1_1, .int .i64 a1_2, .int .i64 a1_3, .int .i64 a1_4, .int .i64 a1_5, .int .i64 a1_6]] rfl (by (try simp only [List.map_toArray, List.map_cons, List.map_nil]); first | done | rfl | (simp only [List.length_drop, List.length_take]; rfl)) ?_; (with_reducible refine (rides_check.calls a1_0 a1_1 a1_2 a1_3 a1_4 a1_5 a1_6 t152 _ A3.out).mono ?_); rintro e w26 ⟨rfl, hb⟩; refine ⟨_, rfl, ?_⟩; have n0_ := Aside0.mk (blk_below (g := gb151) (o := .cells #[.int .i64 a1_0, .int .i64 a1_1, .int .i64 a1_2, .int .i64 a1_3, .int .i64 a1_4, .int .i64 a1_5, .int .i64 a1_6] 28 (0, 0)) (by (with_reducible repeat (first | refine blk_drewN ?_ _ | refine blk_drew ?_ | refine blk_alloc ?_ _)); exact BK151.out) hb); have n1_ := Aside0.mk (below_step (by repeat (first | (with_reducible first | exact HB.out | apply below_alloc | apply pw_below_drewN | apply below_drew1 | refine below_set ?_ GE151.out) | exact HB.out)) hb); clear BK151; clear HB; have BK151 := n0_; have HB := n1_; clear n0_ n1_; (try clear hb); (try clear hb2); (try clear hk); (try clear hi)))
  go_ret3
  exact ⟨_, by first | rfl | (simp [errW_none, errW_some] <;> rfl) | (simp [*, errW_none, errW_some] <;> rfl), by first | exact Kd.R_nil _ _ _ _ _ | exact Kd.N_nil _ _ _ _ _ | exact Kd.V_nil _ _ _ _ _ | exact Kd.Q_nil _ _ _ _ _ | exact Kd.S_nil _ _ _ _ _, by repeat (first | (with_reducible first | exact HB.out | apply below_alloc | apply pw_below_drewN | apply below_drew1 | refine below_set ?_ GE151.out) | exact HB.out)⟩

end Go.Proofs.Ytgohhekihfilbaa.M
