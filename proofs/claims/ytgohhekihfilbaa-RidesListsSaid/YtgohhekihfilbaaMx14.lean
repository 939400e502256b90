/- What the functions of the program compute, as Lean functions, and the proofs that the machine's calls come to just that. Laid by this session's own program. -/
import Derived.Test.YtgohhekihfilbaaMx0
import Derived.Test.YtgohhekihfilbaaMx3
import Derived.Test.YtgohhekihfilbaaMx4
import Derived.Test.YtgohhekihfilbaaMx6
namespace Go.Proofs.Ytgohhekihfilbaa.M
open Go.RowKit Go.Proofs.YtgohhekihfilbaaW.PrintWords Go.Proofs.YtgohhekihfilbaaW.PrintLast Go.Proofs.YtgohhekihfilbaaW.PrintMore
attribute [local go_sem] max2_int min2_int max_two min_two max_three min_three max_four min_four   -- for this text's walks alone
set_option linter.unusedVariables false
set_option linter.unusedSimpArgs false

/-! ### rides_Of_1: function 36 -/
def rides_Of_1.f (a0_0 : Int) (a0_1 : Int) (a0_2 : Int) (a0_3 : Int) (a0_4 : Int) (a0_5 : Int) (a0_6 : Int) (a1 : Int) : Option (Bool) := some (a0_2 != a1)
set_option maxHeartbeats 8000000 in
set_option maxRecDepth 100000 in
theorem rides_Of_1.calls (a0_0 : Int) (a0_1 : Int) (a0_2 : Int) (a0_3 : Int) (a0_4 : Int) (a0_5 : Int) (a0_6 : Int) (a1 : Int) (r : Bool) (w : World) (h : rides_Of_1.f a0_0 a0_1 a0_2 a0_3 a0_4 a0_5 a0_6 a1 = some r) (b_ : Nat) (hbx_ : w.cell? ⟨b_, 0, none⟩ = some (.int .i64 a1)) :
  Calls Try.prog 36 #[.agg #[.int .i64 a0_0, .int .i64 a0_1, .int .i64 a0_2, .int .i64 a0_3, .int .i64 a0_4, .int .i64 a0_5, .int .i64 a0_6], .pointer (some ⟨b_, 0, none⟩)] w fun e w' => e = .returned (.bool r) ∧ Below w.heap.size w w' := by
 have hu28 := Try.underlying28
 have HB := Aside0.mk (Below.refl w.heap.size w)
 have H : (some (a0_2 != a1)) = some r := h
 clear h
 obtain rfl := Option.some.inj H
 go_enter Try.func36, Try.ntmps36
 have hcb_ := (HB.out.cell (World.block_lt_of_cell? w _ hbx_)).trans hbx_
 go_wp2_with (first | ((with_reducible refine gate_dst (N := 2) rfl ?_); refine box_event ?hg (N := 2) ?hd (cs := #[.int .i64 a0_0, .int .i64 a0_1, .int .i64 a0_2, .int .i64 a0_3, .int .i64 a0_4, .int .i64 a0_5, .int .i64 a0_6]) (t := 28) ?hr ?_; (case hd => rfl); (case hg => rfl); (case hr => first | (go_simp; done) | (go_simp; rfl)); intro gb508 hg w3 hbox hb; have n0_ := Aside0.mk (below_step (by repeat (first | (with_reducible first | exact HB.out | apply below_alloc | apply pw_below_drewN | apply below_drew1) | exact HB.out)) hb); have n1_ := Aside0.mk (hbox); have n2_ := Aside0.mk ((by rw [hg]; exact (below_size (by repeat (first | (with_reducible first | exact HB.out | apply below_alloc | apply pw_below_drewN | apply below_drew1) | exact HB.out))) : w.heap.size ≤ gb508)); have n3_ := Aside0.mk ((by rw [hg]; exact (below_size (by repeat (first | (with_reducible first | exact HB.out | apply below_alloc | apply pw_below_drewN | apply below_drew1) | exact HB.out))) : w.heap.size ≤ gb508)); clear HB; have HB := n0_; have BK508 := n1_; have GW508 := n2_; have GE508 := n3_; clear n0_ n1_ n2_ n3_; clear hb hbox hg; have hcb_ := (HB.out.cell (World.block_lt_of_cell? w _ hbx_)).trans hbx_; have hcz4_0 : w3.cell? ⟨gb508, 0, none⟩ = some (.int .i64 a0_0) := (blk_cell BK508.out 0).trans rfl; have hcz4_1 : w3.cell? ⟨gb508, 1, none⟩ = some (.int .i64 a0_1) := (blk_cell BK508.out 1).trans rfl; have hcz4_2 : w3.cell? ⟨gb508, 2, none⟩ = some (.int .i64 a0_2) := (blk_cell BK508.out 2).trans rfl; have hcz4_3 : w3.cell? ⟨gb508, 3, none⟩ = some (.int .i64 a0_3) := (blk_cell BK508.out 3).trans rfl; have hcz4_4 : w3.cell? ⟨gb508, 4, none⟩ = some (.int .i64 a0_4) := (blk_cell BK508.out 4).trans rfl; have hcz4_5 : w3.cell? ⟨gb508, 5, none⟩ = some (.int .i64 a0_5) := (blk_cell BK508.out 5).trans rfl; have hcz4_6 : w3.cell? ⟨gb508, 6, none⟩ = some (.int .i64 a0_6) := (blk_cell BK508.out 6).trans rfl; have hfz4_0 := blk_frozen BK508.out 0; have hfz4_1 := blk_frozen BK508.out 1; have hfz4_2 := blk_frozen BK508.out 2; have hfz4_3 := blk_frozen BK508.out 3; have hfz4_4 := blk_frozen BK508.out 4; have hfz4_5 := blk_frozen BK508.out 5; have hfz4_6 := blk_frozen BK508.out 6))
 go_ret
 exact ⟨by first | rfl | (simp [errW_none, errW_some] <;> rfl) | (simp [*, errW_none, errW_some] <;> rfl), by repeat (first | (with_reducible first | exact HB.out | apply below_alloc | apply pw_below_drewN | apply below_drew1 | refine below_set ?_ GE508.out) | exact HB.out)⟩

/-! ### rides_Of_first: function 43 -/
def rides_Of_first.l0 : Nat → List (S28) → Int → Int → Int → Option (Int)
 | 0, _, _, _, _ => none
 | k + 1, x0, x1, x7, x8 => if x8 < x7 then (if 0 ≤ x8 then (if x8 < (x0.length : Int) then ((rides_Of_1.f ((rd_T28 x0 x8).f0) ((rd_T28 x0 x8).f1) ((rd_T28 x0 x8).f2) ((rd_T28 x0 x8).f3) ((rd_T28 x0 x8).f4) ((rd_T28 x0 x8).f5) ((rd_T28 x0 x8).f6) x1).bind fun t510 => (if t510 = true then (some x8) else (rides_Of_first.l0 k x0 x1 x7 (wrap64 (x8 + 1))))) else (none)) else (none)) else (some (-1))
def rides_Of_first.f (k : Nat) (l0 : List (S28)) (a1 : Int) : Option (Int) := rides_Of_first.l0 k l0 a1 (l0.length : Int) 0
set_option maxRecDepth 100000 in
theorem rides_Of_first.mono_l : ∀ k, (∀ y0 y1 y2 y3, LeO (rides_Of_first.l0 k y0 y1 y2 y3) (rides_Of_first.l0 (k + 1) y0 y1 y2 y3))
 | 0 => fun _ _ _ _ r h => by simp [rides_Of_first.l0] at h
 | k + 1 => by
  have ih0 := rides_Of_first.mono_l k
  ·intro y0 y1 y2 y3
   unfold rides_Of_first.l0
   repeat' first
   | (with_reducible exact ih0 _ _ _ _)
   | (with_reducible exact LeO.refl _)
   | (with_reducible exact LeO.none _)
   | (with_reducible refine LeO.ite ?_ ?_)
   | (with_reducible refine LeO.bind ?_ (fun _ => ?_))
   | exact ih0 _ _ _ _
   | exact LeO.none _
   | refine LeO.ite ?_ ?_
   | refine LeO.bind ?_ (fun _ => ?_)
theorem rides_Of_first.mono : ∀ a0 a1 k, LeO (rides_Of_first.f k a0 a1) (rides_Of_first.f (k + 1) a0 a1) := by
 intro a0 a1 k
 have ih0 := rides_Of_first.mono_l k
 unfold rides_Of_first.f
 repeat' first
   | (with_reducible exact ih0 _ _ _ _)
   | (with_reducible exact LeO.refl _)
   | (with_reducible exact LeO.none _)
   | (with_reducible refine LeO.ite ?_ ?_)
   | (with_reducible refine LeO.bind ?_ (fun _ => ?_))
   | exact ih0 _ _ _ _
   | exact LeO.none _
   | refine LeO.ite ?_ ?_
   | refine LeO.bind ?_ (fun _ => ?_)
set_option maxHeartbeats 8000000 in
set_option maxRecDepth 100000 in
theorem rides_Of_first.calls (k : Nat) (A0 : Option Addr) (c0 : Nat) (l0 : List (S28)) (a1 : Int) (r : Int) (w : World) (hr0 : Kd.C k28 w A0 l0.length l0) (hc0 : l0.length ≤ c0) (h : rides_Of_first.f k l0 a1 = some r) (b_ : Nat) (hbx_ : w.cell? ⟨b_, 0, none⟩ = some (.int .i64 a1)) :
  Calls Try.prog 43 #[.slice A0 l0.length c0, .func (.func 36) #[] #[.pointer (some ⟨b_, 0, none⟩)]] w fun e w' => e = .returned (.int .i64 r) ∧ Below w.heap.size w w' := by
 have hu28 := Try.underlying28
 have HR0 := Aside0.mk hr0
 have HC0 := Aside0.mk hc0
 clear hr0 hc0
 have HB := Aside0.mk (Below.refl w.heap.size w)
 have H : (rides_Of_first.l0 k l0 a1 (l0.length : Int) 0) = some r := h
 clear h
 have H' := Aside0.mk H
 clear H
 go_enter Try.func43, Try.ntmps43
 go_wp2
 go_loopg [8] k (fun kq v8 w' => ∃ (x8_1 : Int), v8 = .int .i64 x8_1 ∧ Aside0 (rides_Of_first.l0 kq l0 a1 (l0.length : Int) x8_1 = some r) ∧ Aside0 (kq ≤ k) ∧ Aside0 (Below w.heap.size w w'))
 case atStart => exact ⟨(0), (by first | rfl | (simp; done) | (simp [*]; done)), H', ⟨Nat.le_refl _⟩, ⟨by repeat (first | (with_reducible first | exact HB.out | apply below_alloc | apply pw_below_drewN | apply below_drew1) | exact HB.out)⟩⟩
 case round =>
  clear H'
  try clear p2
  obtain ⟨x8_1, rfl, HA, HK1, HB⟩ := hrel
  cases gk with
  | zero => exact absurd HA.out (by simp [rides_Of_first.l0])
  | succ k1 =>
   have H := HA.out
   clear HA
   simp only [rides_Of_first.l0] at H
   by_cases c3 : x8_1 < (l0.length : Int)
   ·rw [if_pos c3] at H
    have c3b0 : decide (x8_1 < (l0.length : Int)) = true := decide_eq_true c3
    clear c3
    by_cases c4 : 0 ≤ x8_1
    ·rw [if_pos c4] at H
     have c4b0 : decide (0 ≤ x8_1) = true := decide_eq_true c4
     clear c4
     by_cases c5 : x8_1 < (l0.length : Int)
     ·rw [if_pos c5] at H
      have c5b0 : decide (x8_1 < (l0.length : Int)) = true := decide_eq_true c5
      clear c5
      replace H := Option.bind_eq_some_iff.mp H
      obtain ⟨t510, A60, H⟩ := H
      replace H : (if t510 = true then (some x8_1) else (rides_Of_first.l0 k1 l0 a1 (l0.length : Int) (wrap64 (x8_1 + 1)))) = some r := H
      have A6 := Aside0.mk A60
      clear A60
      by_cases c7 : t510 = true
      ·subst c7
       have H1 : (some x8_1) = some r := by rw [if_pos rfl] at H; exact H
       clear H
       have H := H1
       clear H1
       obtain rfl := Option.some.inj H
       have p509 : 0 ≤ (x8_1 : Int) := of_decide_eq_true (by first | (with_reducible assumption) | assumption)
       have q509 : x8_1 < (l0.length : Int) := of_decide_eq_true (by first | (with_reducible assumption) | assumption)
       obtain ⟨ad509, e509, hx509_0, hx509_1, hx509_2, hx509_3, hx509_4, hx509_5, hx509_6⟩ := at_T28 HR0.out x8_1 p509 q509
       cases e509
       replace hx509_0 := (HB.out.cell (World.block_lt_of_cell? w _ hx509_0)).trans hx509_0
       replace hx509_1 := (HB.out.cell (World.block_lt_of_cell? w _ hx509_1)).trans hx509_1
       replace hx509_2 := (HB.out.cell (World.block_lt_of_cell? w _ hx509_2)).trans hx509_2
       replace hx509_3 := (HB.out.cell (World.block_lt_of_cell? w _ hx509_3)).trans hx509_3
       replace hx509_4 := (HB.out.cell (World.block_lt_of_cell? w _ hx509_4)).trans hx509_4
       replace hx509_5 := (HB.out.cell (World.block_lt_of_cell? w _ hx509_5)).trans hx509_5
       replace hx509_6 := (HB.out.cell (World.block_lt_of_cell? w _ hx509_6)).trans hx509_6
       replace p509 := eq_true p509
       replace q509 := eq_true q509
       go_wp2_with (first | ((with_reducible refine Val.gateV_ 11 rfl ?_); refine Val.goesV_ 11 #[.pointer (some ⟨b_, 0, none⟩)] (some 16) rfl rfl Try.func36 (by kernel_rfl) rfl #[.agg #[.int .i64 ((rd_T28 l0 x8_1).f0), .int .i64 ((rd_T28 l0 x8_1).f1), .int .i64 ((rd_T28 l0 x8_1).f2), .int .i64 ((rd_T28 l0 x8_1).f3), .int .i64 ((rd_T28 l0 x8_1).f4), .int .i64 ((rd_T28 l0 x8_1).f5), .int .i64 ((rd_T28 l0 x8_1).f6)], .pointer (some ⟨b_, 0, none⟩)] rfl rfl (by (try simp only [List.map_toArray, List.map_cons, List.map_nil]); first | done | rfl | (simp only [List.length_drop, List.length_take]; rfl)) ?_; (with_reducible refine (rides_Of_1.calls ((rd_T28 l0 x8_1).f0) ((rd_T28 l0 x8_1).f1) ((rd_T28 l0 x8_1).f2) ((rd_T28 l0 x8_1).f3) ((rd_T28 l0 x8_1).f4) ((rd_T28 l0 x8_1).f5) ((rd_T28 l0 x8_1).f6) a1 true _ A6.out b_ (by first | exact hbx_ | exact (HB.out.cell (World.block_lt_of_cell? w _ hbx_)).trans hbx_ | exact cell_kept hbx_ (by repeat (first | exact HK.out | refine Kept.drewN ?_ _ | refine Kept.drew ?_ | refine Kept.alloc ?_ _)) hnb_)).mono ?_); rintro e w8 ⟨rfl, hb⟩; refine ⟨_, rfl, ?_⟩; have n0_ := Aside0.mk (below_step (by repeat (first | (with_reducible first | exact HB.out | apply below_alloc | apply pw_below_drewN | apply below_drew1) | exact HB.out)) hb); clear HB; have HB := n0_; clear n0_; (try clear hb); (try clear hb2); (try clear hk); (try clear hi)))
       go_ret
       exact ⟨by first | rfl | (simp [errW_none, errW_some] <;> rfl) | (simp [*, errW_none, errW_some] <;> rfl), by repeat (first | (with_reducible first | exact HB.out | apply below_alloc | apply pw_below_drewN | apply below_drew1) | exact HB.out)⟩
      ·replace c7 := Bool.eq_false_iff.mpr c7
       subst c7
       have H1 : (rides_Of_first.l0 k1 l0 a1 (l0.length : Int) (wrap64 (x8_1 + 1))) = some r := by rw [if_neg (show ¬ (false = true) by decide)] at H; exact H
       clear H
       have H := H1
       clear H1
       have H' := Aside0.mk H
       clear H
       have p509 : 0 ≤ (x8_1 : Int) := of_decide_eq_true (by first | (with_reducible assumption) | assumption)
       have q509 : x8_1 < (l0.length : Int) := of_decide_eq_true (by first | (with_reducible assumption) | assumption)
       obtain ⟨ad509, e509, hx509_0, hx509_1, hx509_2, hx509_3, hx509_4, hx509_5, hx509_6⟩ := at_T28 HR0.out x8_1 p509 q509
       cases e509
       replace hx509_0 := (HB.out.cell (World.block_lt_of_cell? w _ hx509_0)).trans hx509_0
       replace hx509_1 := (HB.out.cell (World.block_lt_of_cell? w _ hx509_1)).trans hx509_1
       replace hx509_2 := (HB.out.cell (World.block_lt_of_cell? w _ hx509_2)).trans hx509_2
       replace hx509_3 := (HB.out.cell (World.block_lt_of_cell? w _ hx509_3)).trans hx509_3
       replace hx509_4 := (HB.out.cell (World.block_lt_of_cell? w _ hx509_4)).trans hx509_4
       replace hx509_5 := (HB.out.cell (World.block_lt_of_cell? w _ hx509_5)).trans hx509_5
       replace hx509_6 := (HB.out.cell (World.block_lt_of_cell? w _ hx509_6)).trans hx509_6
       replace p509 := eq_true p509
       replace q509 := eq_true q509
       go_wp2_with (first | ((with_reducible refine Val.gateV_ 11 rfl ?_); refine Val.goesV_ 11 #[.pointer (some ⟨b_, 0, none⟩)] (some 16) rfl rfl Try.func36 (by kernel_rfl) rfl #[.agg #[.int .i64 ((rd_T28 l0 x8_1).f0), .int .i64 ((rd_T28 l0 x8_1).f1), .int .i64 ((rd_T28 l0 x8_1).f2), .int .i64 ((rd_T28 l0 x8_1).f3), .int .i64 ((rd_T28 l0 x8_1).f4), .int .i64 ((rd_T28 l0 x8_1).f5), .int .i64 ((rd_T28 l0 x8_1).f6)], .pointer (some ⟨b_, 0, none⟩)] rfl rfl (by (try simp only [List.map_toArray, List.map_cons, List.map_nil]); first | done | rfl | (simp only [List.length_drop, List.length_take]; rfl)) ?_; (with_reducible refine (rides_Of_1.calls ((rd_T28 l0 x8_1).f0) ((rd_T28 l0 x8_1).f1) ((rd_T28 l0 x8_1).f2) ((rd_T28 l0 x8_1).f3) ((rd_T28 l0 x8_1).f4) ((rd_T28 l0 x8_1).f5) ((rd_T28 l0 x8_1).f6) a1 false _ A6.out b_ (by first | exact hbx_ | exact (HB.out.cell (World.block_lt_of_cell? w _ hbx_)).trans hbx_ | exact cell_kept hbx_ (by repeat (first | exact HK.out | refine Kept.drewN ?_ _ | refine Kept.drew ?_ | refine Kept.alloc ?_ _)) hnb_)).mono ?_); rintro e w9 ⟨rfl, hb⟩; refine ⟨_, rfl, ?_⟩; have n0_ := Aside0.mk (below_step (by repeat (first | (with_reducible first | exact HB.out | apply below_alloc | apply pw_below_drewN | apply below_drew1) | exact HB.out)) hb); clear HB; have HB := n0_; clear n0_; (try clear hb); (try clear hb2); (try clear hk); (try clear hi)))
       go_roundg k1
       case measure => have := HK1.out; omega
       case rel => exact ⟨(wrap64 (x8_1 + 1)), (by first | rfl | (simp; done) | (simp [*]; done)), H', ⟨by have := HK1.out; omega⟩, ⟨by repeat (first | (with_reducible first | exact HB.out | apply below_alloc | apply pw_below_drewN | apply below_drew1) | exact HB.out)⟩⟩
     ·rw [if_neg c5] at H
      exact absurd H (by simp)
    ·rw [if_neg c4] at H
     exact absurd H (by simp)
   ·rw [if_neg c3] at H
    have c3b0 : decide (x8_1 < (l0.length : Int)) = false := decide_eq_false c3
    clear c3
    obtain rfl := Option.some.inj H
    go_wp2
    go_ret
    exact ⟨by first | rfl | (simp [errW_none, errW_some] <;> rfl) | (simp [*, errW_none, errW_some] <;> rfl), by repeat (first | (with_reducible first | exact HB.out | apply below_alloc | apply pw_below_drewN | apply below_drew1) | exact HB.out)⟩

-- NOT PRINTED: function 43 (api_Ride_43)

/-! ### rides_Of_del: function 35 -/
def rides_Of_del.l0 : Nat → List (S28) → Int → Int → Int → Option ((List (S28)))
 | 0, _, _, _, _ => none
 | k + 1, x0, x1, x5, x6 => if x6 < (x0.length : Int) then (if 0 ≤ x6 then ((rides_Of_1.f ((rd_T28 x0 x6).f0) ((rd_T28 x0 x6).f1) ((rd_T28 x0 x6).f2) ((rd_T28 x0 x6).f3) ((rd_T28 x0 x6).f4) ((rd_T28 x0 x6).f5) ((rd_T28 x0 x6).f6) x1).bind fun t514 => (if t514 = true then (rides_Of_del.l0 k x0 x1 x5 (wrap64 (x6 + 1))) else (if 0 ≤ x5 then (if x5 < (x0.length : Int) then (rides_Of_del.l0 k (x0.set (x5 : Int).toNat (⟨(rd_T28 x0 x6).f0, (rd_T28 x0 x6).f1, (rd_T28 x0 x6).f2, (rd_T28 x0 x6).f3, (rd_T28 x0 x6).f4, (rd_T28 x0 x6).f5, (rd_T28 x0 x6).f6⟩ : S28)) x1 (wrap64 (x5 + 1)) (wrap64 (x6 + 1))) else (none)) else (none)))) else (none)) else (if 0 ≤ x5 then (if x5 ≤ (x0.length : Int) then (some (x0.take (x5 : Int).toNat)) else (none)) else (none))
def rides_Of_del.f (k : Nat) (l0 : List (S28)) (a1 : Int) : Option ((List (S28))) := (rides_Of_first.f k l0 a1).bind fun t511 => (if t511 = (-1) then (some l0) else (rides_Of_del.l0 k l0 a1 t511 (wrap64 (t511 + 1))))
set_option maxRecDepth 100000 in
theorem rides_Of_del.mono_l : ∀ k, (∀ y0 y1 y2 y3, LeO (rides_Of_del.l0 k y0 y1 y2 y3) (rides_Of_del.l0 (k + 1) y0 y1 y2 y3))
 | 0 => fun _ _ _ _ r h => by simp [rides_Of_del.l0] at h
 | k + 1 => by
  have ih0 := rides_Of_del.mono_l k
  ·intro y0 y1 y2 y3
   unfold rides_Of_del.l0
   repeat' first
   | (with_reducible exact ih0 _ _ _ _)
   | (with_reducible exact rides_Of_first.mono _ _ _)
   | (with_reducible exact LeO.refl _)
   | (with_reducible exact LeO.none _)
   | (with_reducible refine LeO.ite ?_ ?_)
   | (with_reducible refine LeO.bind ?_ (fun _ => ?_))
   | exact ih0 _ _ _ _
   | exact rides_Of_first.mono _ _ _
   | exact LeO.none _
   | refine LeO.ite ?_ ?_
   | refine LeO.bind ?_ (fun _ => ?_)
theorem rides_Of_del.mono : ∀ a0 a1 k, LeO (rides_Of_del.f k a0 a1) (rides_Of_del.f (k + 1) a0 a1) := by
 intro a0 a1 k
 have ih0 := rides_Of_del.mono_l k
 unfold rides_Of_del.f
 repeat' first
   | (with_reducible exact ih0 _ _ _ _)
   | (with_reducible exact rides_Of_first.mono _ _ _)
   | (with_reducible exact LeO.refl _)
   | (with_reducible exact LeO.none _)
   | (with_reducible refine LeO.ite ?_ ?_)
   | (with_reducible refine LeO.bind ?_ (fun _ => ?_))
   | exact ih0 _ _ _ _
   | exact rides_Of_first.mono _ _ _
   | exact LeO.none _
   | refine LeO.ite ?_ ?_
   | refine LeO.bind ?_ (fun _ => ?_)
set_option maxHeartbeats 8000000 in
set_option maxRecDepth 100000 in
theorem rides_Of_del.calls (k : Nat) (P0_ : Nat → Prop) (u9000_ : Value) (l0 : List (S28)) (a1 : Int) (r : List (S28)) (w0 w : World) (hB : Below w0.heap.size w0 w) (ho0 : Kd.R k28 28 w w0.heap.size P0_ u9000_ l0) (h : rides_Of_del.f k l0 a1 = some r) (b_ : Nat) (hbx_ : w.cell? ⟨b_, 0, none⟩ = some (.int .i64 a1)) (hnb_ : ¬ P0_ b_) :
  Calls Try.prog 35 #[u9000_, .func (.func 36) #[] #[.pointer (some ⟨b_, 0, none⟩)]] w fun e w' => ∃ v0_ : Value, e = .returned (v0_) ∧ Kd.R k28 28 w' w0.heap.size (fun k_ => (P0_ k_ ∨ w.heap.size ≤ k_)) v0_ r ∧ Below w0.heap.size w0 w' ∧ Kept w w' (fun k_ => P0_ k_) := by
 have hu28 := Try.underlying28
 have HO0 := Aside0.mk (show Kd.R k28 28 w w0.heap.size (fun k_ => (P0_ k_ ∨ w.heap.size ≤ k_)) u9000_ l0 from Kd.R_mono ho0 (fun k_ hk => (.inl hk)))
 have HK := Aside0.mk (Kept.refl w (fun k_ => P0_ k_))
 have HW0 := Aside0.mk hB.size
 have HB := Aside0.mk hB
 clear hB
 have H : ((rides_Of_first.f k l0 a1).bind fun t511 => (if t511 = (-1) then (some l0) else (rides_Of_del.l0 k l0 a1 t511 (wrap64 (t511 + 1))))) = some r := h
 clear h
 replace H := Option.bind_eq_some_iff.mp H
 obtain ⟨t511, A30, H⟩ := H
 replace H : (if t511 = (-1) then (some l0) else (rides_Of_del.l0 k l0 a1 t511 (wrap64 (t511 + 1)))) = some r := H
 have A3 := Aside0.mk A30
 clear A30
 by_cases c4 : t511 = (-1)
 ·rw [if_pos c4] at H
  have c4b0 : (t511 == (-1)) = true := beq_iff_eq.mpr c4
  have c4b1 : (t511 != (-1)) = false := bne_eq_false_iff_eq.mpr c4
  clear c4
  obtain rfl := Option.some.inj H
  obtain ⟨Ao5, co5, eo5⟩ := Kd.R_slice HO0.out
  subst eo5
  go_enter Try.func35, Try.ntmps35
  go_wp2_with (first | ((with_reducible refine gate_callee (f := 43) rfl ?_); refine goesL_ (some 10) rfl rfl Try.func43 (by kernel_rfl) rfl #[.slice Ao5 l0.length co5, .func (.func 36) #[] #[.pointer (some ⟨b_, 0, none⟩)]] rfl (by (try simp only [List.map_toArray, List.map_cons, List.map_nil]); first | done | rfl | (simp only [List.length_drop, List.length_take]; rfl)) ?_; (with_reducible refine (rides_Of_first.calls k _ _ l0 a1 t511 _ ?side1 ?side2 A3.out b_ (by first | exact hbx_ | exact (HB.out.cell (World.block_lt_of_cell? w _ hbx_)).trans hbx_ | exact cell_kept hbx_ (by repeat (first | exact HK.out | refine Kept.setCell ?_ (.inr GW513.out) _ | refine Kept.drewN ?_ _ | refine Kept.drew ?_ | refine Kept.alloc ?_ _)) hnb_)).mono ?_); (case side1 => repeat (first | exact (Kd.R_reads' HO0.out).2.2 | (with_reducible refine Kd.C_alloc ?_ _) | (with_reducible refine Kd.C_drewN ?_ _) | (with_reducible refine Kd.C_drew ?_))); (case side2 => exact (Kd.R_reads' HO0.out).2.1); rintro e w6 ⟨rfl, hb⟩; refine ⟨_, rfl, ?_⟩; have n0_ := Aside0.mk (Kd.R_below (by (with_reducible repeat (first | apply Kd.R_alloc | apply Kd.R_drewN | apply Kd.R_drew)); exact HO0.out) hb); have n1_ := Aside0.mk (Kept.below (S := (fun k_ => P0_ k_)) (by repeat (first | (with_reducible first | exact HK.out | apply Kept.alloc | apply Kept.drewN | apply Kept.drew) | exact HK.out)) hb); have n2_ := Aside0.mk (below_step (by repeat (first | (with_reducible first | exact HB.out | apply below_alloc | apply pw_below_drewN | apply below_drew1) | exact HB.out)) hb); clear HO0; clear HK; clear HB; have HO0 := n0_; have HK := n1_; have HB := n2_; clear n0_ n1_ n2_; (try clear hb); (try clear hb2); (try clear hk); (try clear hi)))
  go_ret
  exact ⟨_, by first | rfl | (simp [errW_none, errW_some] <;> rfl) | (simp [*, errW_none, errW_some] <;> rfl), by (with_reducible repeat (first | apply Kd.R_alloc | apply Kd.R_drewN | apply Kd.R_drew)); exact HO0.out, by repeat (first | (with_reducible first | exact HB.out | apply below_alloc | apply pw_below_drewN | apply below_drew1) | exact HB.out), by repeat (first | (with_reducible first | exact HK.out | apply Kept.alloc | apply Kept.drewN | apply Kept.drew) | exact HK.out)⟩
 ·rw [if_neg c4] at H
  have c4b0 : (t511 == (-1)) = false := beq_eq_false_iff_ne.mpr c4
  have c4b1 : (t511 != (-1)) = true := bne_iff_ne.mpr c4
  have H' := Aside0.mk H
  clear H
  obtain ⟨Ao7, co7, eo7⟩ := Kd.R_slice HO0.out
  subst eo7
  go_enter Try.func35, Try.ntmps35
  go_wp2_with (first | ((with_reducible refine gate_callee (f := 43) rfl ?_); refine goesL_ (some 10) rfl rfl Try.func43 (by kernel_rfl) rfl #[.slice Ao7 l0.length co7, .func (.func 36) #[] #[.pointer (some ⟨b_, 0, none⟩)]] rfl (by (try simp only [List.map_toArray, List.map_cons, List.map_nil]); first | done | rfl | (simp only [List.length_drop, List.length_take]; rfl)) ?_; (with_reducible refine (rides_Of_first.calls k _ _ l0 a1 t511 _ ?side1 ?side2 A3.out b_ (by first | exact hbx_ | exact (HB.out.cell (World.block_lt_of_cell? w _ hbx_)).trans hbx_ | exact cell_kept hbx_ (by repeat (first | exact HK.out | refine Kept.setCell ?_ (.inr GW513.out) _ | refine Kept.drewN ?_ _ | refine Kept.drew ?_ | refine Kept.alloc ?_ _)) hnb_)).mono ?_); (case side1 => repeat (first | exact (Kd.R_reads' HO0.out).2.2 | (with_reducible refine Kd.C_alloc ?_ _) | (with_reducible refine Kd.C_drewN ?_ _) | (with_reducible refine Kd.C_drew ?_))); (case side2 => exact (Kd.R_reads' HO0.out).2.1); rintro e w8 ⟨rfl, hb⟩; refine ⟨_, rfl, ?_⟩; have n0_ := Aside0.mk (Kd.R_below (by (with_reducible repeat (first | apply Kd.R_alloc | apply Kd.R_drewN | apply Kd.R_drew)); exact HO0.out) hb); have n1_ := Aside0.mk (Kept.below (S := (fun k_ => P0_ k_)) (by repeat (first | (with_reducible first | exact HK.out | apply Kept.alloc | apply Kept.drewN | apply Kept.drew) | exact HK.out)) hb); have n2_ := Aside0.mk (below_step (by repeat (first | (with_reducible first | exact HB.out | apply below_alloc | apply pw_below_drewN | apply below_drew1) | exact HB.out)) hb); clear HO0; clear HK; clear HB; have HO0 := n0_; have HK := n1_; have HB := n2_; clear n0_ n1_ n2_; (try clear hb); (try clear hb2); (try clear hk); (try clear hi)))
  go_loopg [5, 6] k (fun kq v5 v6 w' => ∃ (x0_1 : List (S28)) (x5_1 : Int) (x6_1 : Int), v5 = .int .i64 x5_1 ∧ v6 = .int .i64 x6_1 ∧ Aside0 (rides_Of_del.l0 kq x0_1 a1 x5_1 x6_1 = some r) ∧ Aside0 (kq ≤ k) ∧ Aside0 (Kd.R k28 28 w' w0.heap.size (fun k_ => (P0_ k_ ∨ w.heap.size ≤ k_)) (.slice Ao7 l0.length co7) x0_1) ∧ Aside0 (Kept w w' (fun k_ => P0_ k_)) ∧ Aside0 (Below w0.heap.size w0 w'))
  case atStart => exact ⟨(l0), (t511), (wrap64 (t511 + 1)), (by first | rfl | (simp; done) | (simp [*]; done)), (by first | rfl | (simp; done) | (simp [*]; done)), H', ⟨Nat.le_refl _⟩, ⟨by (with_reducible repeat (first | apply Kd.R_alloc | apply Kd.R_drewN | apply Kd.R_drew)); exact HO0.out⟩, ⟨by repeat (first | (with_reducible first | exact HK.out | apply Kept.alloc | apply Kept.drewN | apply Kept.drew) | exact HK.out)⟩, ⟨by repeat (first | (with_reducible first | exact HB.out | apply below_alloc | apply pw_below_drewN | apply below_drew1) | exact HB.out)⟩⟩
  case round =>
   clear H'
   try clear p2
   try clear c4
   try clear c4b0
   try clear c4b1
   try clear p6
   try clear c7
   obtain ⟨x0_1, x5_1, x6_1, rfl, rfl, HA, HK1, HO_0, HK, HB⟩ := hrel
   have hl0_1 := (Kd.R_reads' HO_0.out).1
   rw [hl0_1] at HO_0
   (try simp only [hl0_1])
   cases gk with
   | zero => exact absurd HA.out (by simp [rides_Of_del.l0])
   | succ k1 =>
    have H := HA.out
    clear HA
    simp only [rides_Of_del.l0] at H
    by_cases c9 : x6_1 < (x0_1.length : Int)
    ·rw [if_pos c9] at H
     have c9b0 : decide (x6_1 < (x0_1.length : Int)) = true := decide_eq_true c9
     clear c9
     by_cases c10 : 0 ≤ x6_1
     ·rw [if_pos c10] at H
      have c10b0 : decide (0 ≤ x6_1) = true := decide_eq_true c10
      clear c10
      replace H := Option.bind_eq_some_iff.mp H
      obtain ⟨t514, A110, H⟩ := H
      replace H : (if t514 = true then (rides_Of_del.l0 k1 x0_1 a1 x5_1 (wrap64 (x6_1 + 1))) else (if 0 ≤ x5_1 then (if x5_1 < (x0_1.length : Int) then (rides_Of_del.l0 k1 (x0_1.set (x5_1 : Int).toNat (⟨(rd_T28 x0_1 x6_1).f0, (rd_T28 x0_1 x6_1).f1, (rd_T28 x0_1 x6_1).f2, (rd_T28 x0_1 x6_1).f3, (rd_T28 x0_1 x6_1).f4, (rd_T28 x0_1 x6_1).f5, (rd_T28 x0_1 x6_1).f6⟩ : S28)) a1 (wrap64 (x5_1 + 1)) (wrap64 (x6_1 + 1))) else (none)) else (none))) = some r := H
      have A11 := Aside0.mk A110
      clear A110
      by_cases c12 : t514 = true
      ·subst c12
       have H1 : (rides_Of_del.l0 k1 x0_1 a1 x5_1 (wrap64 (x6_1 + 1))) = some r := by rw [if_pos rfl] at H; exact H
       clear H
       have H := H1
       clear H1
       have H' := Aside0.mk H
       clear H
       have p512 : 0 ≤ (x6_1 : Int) := of_decide_eq_true (by first | (with_reducible assumption) | assumption)
       have q512 : x6_1 < (x0_1.length : Int) := of_decide_eq_true (by first | (with_reducible assumption) | assumption)
       obtain ⟨ad512, e512, hx512_0, hx512_1, hx512_2, hx512_3, hx512_4, hx512_5, hx512_6⟩ := at_T28 (Kd.R_reads' HO_0.out).2.2 x6_1 p512 q512
       cases e512
       replace p512 := eq_true p512
       replace q512 := eq_true q512
       go_wp2_with (first | ((with_reducible refine gate_dst (N := 7) rfl ?_); refine box_event ?hg (N := 7) ?hd (cs := #[.int .i64 0, .int .i64 0, .int .i64 0, .int .i64 0, .int .i64 0, .int .i64 0, .int .i64 0]) (t := 28) ?hr ?_; (case hd => rfl); (case hg => rfl); (case hr => first | (go_simp; done) | (go_simp; rfl)); intro gb513 hg w13 hbox hb; have n0_ := Aside0.mk (Kd.R_below (Kd.R_elderB (by (with_reducible repeat (first | apply Kd.R_alloc | apply Kd.R_drewN | apply Kd.R_drew)); exact HO_0.out) gb513 (Nat.le_of_eq hg.symm)) hb); have n1_ := Aside0.mk (Kept.below (S := (fun k_ => P0_ k_)) (by repeat (first | (with_reducible first | exact HK.out | apply Kept.alloc | apply Kept.drewN | apply Kept.drew) | exact HK.out)) hb); have n2_ := Aside0.mk (below_step (by repeat (first | (with_reducible first | exact HB.out | apply below_alloc | apply pw_below_drewN | apply below_drew1) | exact HB.out)) hb); have n3_ := Aside0.mk (hbox); have n4_ := Aside0.mk ((by rw [hg]; exact (by first | exact HK.out.1 | exact (show Kept w _ (fun k_ => P0_ k_) from by repeat (first | (with_reducible first | exact HK.out | apply Kept.alloc | apply Kept.drewN | apply Kept.drew) | exact HK.out)).1) : w.heap.size ≤ gb513)); have n5_ := Aside0.mk ((by rw [hg]; exact (below_size (by repeat (first | (with_reducible first | exact HB.out | apply below_alloc | apply pw_below_drewN | apply below_drew1) | exact HB.out))) : w0.heap.size ≤ gb513)); clear HO_0; clear HK; clear HB; have HO_0 := n0_; have HK := n1_; have HB := n2_; have BK513 := n3_; have GW513 := n4_; have GE513 := n5_; clear n0_ n1_ n2_ n3_ n4_ n5_; clear hb hbox hg; have hcz14_0 : w13.cell? ⟨gb513, 0, none⟩ = some (.int .i64 0) := (blk_cell BK513.out 0).trans rfl; have hcz14_1 : w13.cell? ⟨gb513, 1, none⟩ = some (.int .i64 0) := (blk_cell BK513.out 1).trans rfl; have hcz14_2 : w13.cell? ⟨gb513, 2, none⟩ = some (.int .i64 0) := (blk_cell BK513.out 2).trans rfl; have hcz14_3 : w13.cell? ⟨gb513, 3, none⟩ = some (.int .i64 0) := (blk_cell BK513.out 3).trans rfl; have hcz14_4 : w13.cell? ⟨gb513, 4, none⟩ = some (.int .i64 0) := (blk_cell BK513.out 4).trans rfl; have hcz14_5 : w13.cell? ⟨gb513, 5, none⟩ = some (.int .i64 0) := (blk_cell BK513.out 5).trans rfl; have hcz14_6 : w13.cell? ⟨gb513, 6, none⟩ = some (.int .i64 0) := (blk_cell BK513.out 6).trans rfl; have hfz14_0 := blk_frozen BK513.out 0; have hfz14_1 := blk_frozen BK513.out 1; have hfz14_2 := blk_frozen BK513.out 2; have hfz14_3 := blk_frozen BK513.out 3; have hfz14_4 := blk_frozen BK513.out 4; have hfz14_5 := blk_frozen BK513.out 5; have hfz14_6 := blk_frozen BK513.out 6) | ((with_reducible refine Val.gateV_ 26 rfl ?_); refine Val.goesV_ 26 #[.pointer (some ⟨b_, 0, none⟩)] (some 28) rfl rfl Try.func36 (by kernel_rfl) rfl #[.agg #[.int .i64 ((rd_T28 x0_1 x6_1).f0), .int .i64 ((rd_T28 x0_1 x6_1).f1), .int .i64 ((rd_T28 x0_1 x6_1).f2), .int .i64 ((rd_T28 x0_1 x6_1).f3), .int .i64 ((rd_T28 x0_1 x6_1).f4), .int .i64 ((rd_T28 x0_1 x6_1).f5), .int .i64 ((rd_T28 x0_1 x6_1).f6)], .pointer (some ⟨b_, 0, none⟩)] rfl rfl (by (try simp only [List.map_toArray, List.map_cons, List.map_nil]); first | done | rfl | (simp only [List.length_drop, List.length_take]; rfl)) ?_; (with_reducible refine (rides_Of_1.calls ((rd_T28 x0_1 x6_1).f0) ((rd_T28 x0_1 x6_1).f1) ((rd_T28 x0_1 x6_1).f2) ((rd_T28 x0_1 x6_1).f3) ((rd_T28 x0_1 x6_1).f4) ((rd_T28 x0_1 x6_1).f5) ((rd_T28 x0_1 x6_1).f6) a1 true _ A11.out b_ (by first | exact hbx_ | exact (HB.out.cell (World.block_lt_of_cell? w _ hbx_)).trans hbx_ | exact cell_kept hbx_ (by repeat (first | exact HK.out | refine Kept.setCell ?_ (.inr GW513.out) _ | refine Kept.drewN ?_ _ | refine Kept.drew ?_ | refine Kept.alloc ?_ _)) hnb_)).mono ?_); rintro e w15 ⟨rfl, hb⟩; refine ⟨_, rfl, ?_⟩; have n0_ := Aside0.mk (Kd.R_below (by (with_reducible repeat (first | apply Kd.R_alloc | apply Kd.R_drewN | apply Kd.R_drew)); exact (Kd.R_mono (Kd.R_far (p := ⟨gb513, 6, none⟩) (Kd.R_far (p := ⟨gb513, 5, none⟩) (Kd.R_far (p := ⟨gb513, 4, none⟩) (Kd.R_far (p := ⟨gb513, 3, none⟩) (Kd.R_far (p := ⟨gb513, 2, none⟩) (Kd.R_far (p := ⟨gb513, 1, none⟩) (Kd.R_far (p := ⟨gb513, 0, none⟩) (Kd.R_mono HO_0.out (fun k_ hk => (⟨hk, hk.2⟩ : _ ∧ k_ ≠ gb513))) (fun _ hk => hk.2) (.int .i64 ((rd_T28 x0_1 x6_1).f0))) (fun _ hk => hk.2) (.int .i64 ((rd_T28 x0_1 x6_1).f1))) (fun _ hk => hk.2) (.int .i64 ((rd_T28 x0_1 x6_1).f2))) (fun _ hk => hk.2) (.int .i64 ((rd_T28 x0_1 x6_1).f3))) (fun _ hk => hk.2) (.int .i64 ((rd_T28 x0_1 x6_1).f4))) (fun _ hk => hk.2) (.int .i64 ((rd_T28 x0_1 x6_1).f5))) (fun _ hk => hk.2) (.int .i64 ((rd_T28 x0_1 x6_1).f6))) (fun _ h_ => h_.1))) hb); have n1_ := Aside0.mk (blk_below (g := gb513) (o := .cells #[.int .i64 ((rd_T28 x0_1 x6_1).f0), .int .i64 ((rd_T28 x0_1 x6_1).f1), .int .i64 ((rd_T28 x0_1 x6_1).f2), .int .i64 ((rd_T28 x0_1 x6_1).f3), .int .i64 ((rd_T28 x0_1 x6_1).f4), .int .i64 ((rd_T28 x0_1 x6_1).f5), .int .i64 ((rd_T28 x0_1 x6_1).f6)] 28 (0, 0)) (by (with_reducible repeat (first | refine blk_drewN ?_ _ | refine blk_drew ?_ | refine blk_alloc ?_ _)); refine blk_put (cs := #[.int .i64 ((rd_T28 x0_1 x6_1).f0), .int .i64 ((rd_T28 x0_1 x6_1).f1), .int .i64 ((rd_T28 x0_1 x6_1).f2), .int .i64 ((rd_T28 x0_1 x6_1).f3), .int .i64 ((rd_T28 x0_1 x6_1).f4), .int .i64 ((rd_T28 x0_1 x6_1).f5), .int .i64 0]) ?_ 6 _ rfl; (with_reducible repeat (first | refine blk_drewN ?_ _ | refine blk_drew ?_ | refine blk_alloc ?_ _)); refine blk_put (cs := #[.int .i64 ((rd_T28 x0_1 x6_1).f0), .int .i64 ((rd_T28 x0_1 x6_1).f1), .int .i64 ((rd_T28 x0_1 x6_1).f2), .int .i64 ((rd_T28 x0_1 x6_1).f3), .int .i64 ((rd_T28 x0_1 x6_1).f4), .int .i64 0, .int .i64 0]) ?_ 5 _ rfl; (with_reducible repeat (first | refine blk_drewN ?_ _ | refine blk_drew ?_ | refine blk_alloc ?_ _)); refine blk_put (cs := #[.int .i64 ((rd_T28 x0_1 x6_1).f0), .int .i64 ((rd_T28 x0_1 x6_1).f1), .int .i64 ((rd_T28 x0_1 x6_1).f2), .int .i64 ((rd_T28 x0_1 x6_1).f3), .int .i64 0, .int .i64 0, .int .i64 0]) ?_ 4 _ rfl; (with_reducible repeat (first | refine blk_drewN ?_ _ | refine blk_drew ?_ | refine blk_alloc ?_ _)); refine blk_put (cs := #[.int .i64 ((rd_T28 x0_1 x6_1).f0), .int .i64 ((rd_T28 x0_1 x6_1).f1), .int .i64 ((rd_T28 x0_1 x6_1).f2), .int .i64 0, .int .i64 0, .int .i64 0, .int .i64 0]) ?_ 3 _ rfl; (with_reducible repeat (first | refine blk_drewN ?_ _ | refine blk_drew ?_ | refine blk_alloc ?_ _)); refine blk_put (cs := #[.int .i64 ((rd_T28 x0_1 x6_1).f0), .int .i64 ((rd_T28 x0_1 x6_1).f1), .int .i64 0, .int .i64 0, .int .i64 0, .int .i64 0, .int .i64 0]) ?_ 2 _ rfl; (with_reducible repeat (first | refine blk_drewN ?_ _ | refine blk_drew ?_ | refine blk_alloc ?_ _)); refine blk_put (cs := #[.int .i64 ((rd_T28 x0_1 x6_1).f0), .int .i64 0, .int .i64 0, .int .i64 0, .int .i64 0, .int .i64 0, .int .i64 0]) ?_ 1 _ rfl; (with_reducible repeat (first | refine blk_drewN ?_ _ | refine blk_drew ?_ | refine blk_alloc ?_ _)); refine blk_put (cs := #[.int .i64 0, .int .i64 0, .int .i64 0, .int .i64 0, .int .i64 0, .int .i64 0, .int .i64 0]) ?_ 0 _ rfl; (with_reducible repeat (first | refine blk_drewN ?_ _ | refine blk_drew ?_ | refine blk_alloc ?_ _)); exact BK513.out) hb); have n2_ := Aside0.mk (Kept.below (S := (fun k_ => P0_ k_)) (by repeat (first | (with_reducible first | exact HK.out | apply Kept.alloc | apply Kept.drewN | apply Kept.drew | refine Kept.setCell ?_ (.inr GW513.out) _) | exact HK.out)) hb); have n3_ := Aside0.mk (below_step (by repeat (first | (with_reducible first | exact HB.out | apply below_alloc | apply pw_below_drewN | apply below_drew1 | refine below_set ?_ GE513.out) | exact HB.out)) hb); clear HO_0; clear BK513; clear HK; clear HB; have HO_0 := n0_; have BK513 := n1_; have HK := n2_; have HB := n3_; clear n0_ n1_ n2_ n3_; (try clear hb); (try clear hb2); (try clear hk); (try clear hi)))
       (try simp only [← hl0_1])
       go_roundg k1
       case measure => have := HK1.out; omega
       case rel => exact ⟨(x0_1), (x5_1), (wrap64 (x6_1 + 1)), (by first | rfl | (simp; done) | (simp [*]; done)), (by first | rfl | (simp; done) | (simp [*]; done)), H', ⟨by have := HK1.out; omega⟩, ⟨by (try simp only [hl0_1]); (with_reducible repeat (first | apply Kd.R_alloc | apply Kd.R_drewN | apply Kd.R_drew)); exact Kd.R_mono HO_0.out (fun _ hk => hk.1)⟩, ⟨by repeat (first | (with_reducible first | exact HK.out | apply Kept.alloc | apply Kept.drewN | apply Kept.drew | refine Kept.setCell ?_ (.inr GW513.out) _) | exact HK.out)⟩, ⟨by repeat (first | (with_reducible first | exact HB.out | apply below_alloc | apply pw_below_drewN | apply below_drew1 | refine below_set ?_ GE513.out) | exact HB.out)⟩⟩
      ·replace c12 := Bool.eq_false_iff.mpr c12
       subst c12
       have H1 : (if 0 ≤ x5_1 then (if x5_1 < (x0_1.length : Int) then (rides_Of_del.l0 k1 (x0_1.set (x5_1 : Int).toNat (⟨(rd_T28 x0_1 x6_1).f0, (rd_T28 x0_1 x6_1).f1, (rd_T28 x0_1 x6_1).f2, (rd_T28 x0_1 x6_1).f3, (rd_T28 x0_1 x6_1).f4, (rd_T28 x0_1 x6_1).f5, (rd_T28 x0_1 x6_1).f6⟩ : S28)) a1 (wrap64 (x5_1 + 1)) (wrap64 (x6_1 + 1))) else (none)) else (none)) = some r := by rw [if_neg (show ¬ (false = true) by decide)] at H; exact H
       clear H
       have H := H1
       clear H1
       by_cases c16 : 0 ≤ x5_1
       ·rw [if_pos c16] at H
        have c16b0 : decide (0 ≤ x5_1) = true := decide_eq_true c16
        clear c16
        by_cases c17 : x5_1 < (x0_1.length : Int)
        ·rw [if_pos c17] at H
         have c17b0 : decide (x5_1 < (x0_1.length : Int)) = true := decide_eq_true c17
         clear c17
         obtain ⟨y515, hy515⟩ : ∃ y_ : List (S28), y_ = (x0_1.set (x5_1 : Int).toNat (⟨(rd_T28 x0_1 x6_1).f0, (rd_T28 x0_1 x6_1).f1, (rd_T28 x0_1 x6_1).f2, (rd_T28 x0_1 x6_1).f3, (rd_T28 x0_1 x6_1).f4, (rd_T28 x0_1 x6_1).f5, (rd_T28 x0_1 x6_1).f6⟩ : S28)) := ⟨_, rfl⟩
         replace H : (rides_Of_del.l0 k1 y515 a1 (wrap64 (x5_1 + 1)) (wrap64 (x6_1 + 1))) = some r := by first | (rw [hy515]; with_reducible exact H) | (have H2_ := (Option.bind_some _ _).symm.trans H; rw [hy515]; with_reducible exact H2_) | (have H2_ := (Option.bind_some _ _).symm.trans H; with_reducible exact H2_) | with_reducible exact H | (rw [hy515]; exact H) | exact H
         have Ny515 := Aside0.mk hy515
         clear hy515
         have H' := Aside0.mk H
         clear H
         have p512 : 0 ≤ (x6_1 : Int) := of_decide_eq_true (by first | (with_reducible assumption) | assumption)
         have q512 : x6_1 < (x0_1.length : Int) := of_decide_eq_true (by first | (with_reducible assumption) | assumption)
         obtain ⟨ad512, e512, hx512_0, hx512_1, hx512_2, hx512_3, hx512_4, hx512_5, hx512_6⟩ := at_T28 (Kd.R_reads' HO_0.out).2.2 x6_1 p512 q512
         cases e512
         replace p512 := eq_true p512
         replace q512 := eq_true q512
         go_wp2_with (first | ((with_reducible refine gate_dst (N := 7) rfl ?_); refine box_event ?hg (N := 7) ?hd (cs := #[.int .i64 0, .int .i64 0, .int .i64 0, .int .i64 0, .int .i64 0, .int .i64 0, .int .i64 0]) (t := 28) ?hr ?_; (case hd => rfl); (case hg => rfl); (case hr => first | (go_simp; done) | (go_simp; rfl)); intro gb513 hg w19 hbox hb; have n0_ := Aside0.mk (Kd.R_below (Kd.R_elderB (by (with_reducible repeat (first | apply Kd.R_alloc | apply Kd.R_drewN | apply Kd.R_drew)); exact HO_0.out) gb513 (Nat.le_of_eq hg.symm)) hb); have n1_ := Aside0.mk (Kept.below (S := (fun k_ => P0_ k_)) (by repeat (first | (with_reducible first | exact HK.out | apply Kept.alloc | apply Kept.drewN | apply Kept.drew) | exact HK.out)) hb); have n2_ := Aside0.mk (below_step (by repeat (first | (with_reducible first | exact HB.out | apply below_alloc | apply pw_below_drewN | apply below_drew1) | exact HB.out)) hb); have n3_ := Aside0.mk (hbox); have n4_ := Aside0.mk ((by rw [hg]; exact (by first | exact HK.out.1 | exact (show Kept w _ (fun k_ => P0_ k_) from by repeat (first | (with_reducible first | exact HK.out | apply Kept.alloc | apply Kept.drewN | apply Kept.drew) | exact HK.out)).1) : w.heap.size ≤ gb513)); have n5_ := Aside0.mk ((by rw [hg]; exact (below_size (by repeat (first | (with_reducible first | exact HB.out | apply below_alloc | apply pw_below_drewN | apply below_drew1) | exact HB.out))) : w0.heap.size ≤ gb513)); clear HO_0; clear HK; clear HB; have HO_0 := n0_; have HK := n1_; have HB := n2_; have BK513 := n3_; have GW513 := n4_; have GE513 := n5_; clear n0_ n1_ n2_ n3_ n4_ n5_; clear hb hbox hg; have hcz20_0 : w19.cell? ⟨gb513, 0, none⟩ = some (.int .i64 0) := (blk_cell BK513.out 0).trans rfl; have hcz20_1 : w19.cell? ⟨gb513, 1, none⟩ = some (.int .i64 0) := (blk_cell BK513.out 1).trans rfl; have hcz20_2 : w19.cell? ⟨gb513, 2, none⟩ = some (.int .i64 0) := (blk_cell BK513.out 2).trans rfl; have hcz20_3 : w19.cell? ⟨gb513, 3, none⟩ = some (.int .i64 0) := (blk_cell BK513.out 3).trans rfl; have hcz20_4 : w19.cell? ⟨gb513, 4, none⟩ = some (.int .i64 0) := (blk_cell BK513.out 4).trans rfl; have hcz20_5 : w19.cell? ⟨gb513, 5, none⟩ = some (.int .i64 0) := (blk_cell BK513.out 5).trans rfl; have hcz20_6 : w19.cell? ⟨gb513, 6, none⟩ = some (.int .i64 0) := (blk_cell BK513.out 6).trans rfl; have hfz20_0 := blk_frozen BK513.out 0; have hfz20_1 := blk_frozen BK513.out 1; have hfz20_2 := blk_frozen BK513.out 2; have hfz20_3 := blk_frozen BK513.out 3; have hfz20_4 := blk_frozen BK513.out 4; have hfz20_5 := blk_frozen BK513.out 5; have hfz20_6 := blk_frozen BK513.out 6) | ((with_reducible refine Val.gateV_ 26 rfl ?_); refine Val.goesV_ 26 #[.pointer (some ⟨b_, 0, none⟩)] (some 28) rfl rfl Try.func36 (by kernel_rfl) rfl #[.agg #[.int .i64 ((rd_T28 x0_1 x6_1).f0), .int .i64 ((rd_T28 x0_1 x6_1).f1), .int .i64 ((rd_T28 x0_1 x6_1).f2), .int .i64 ((rd_T28 x0_1 x6_1).f3), .int .i64 ((rd_T28 x0_1 x6_1).f4), .int .i64 ((rd_T28 x0_1 x6_1).f5), .int .i64 ((rd_T28 x0_1 x6_1).f6)], .pointer (some ⟨b_, 0, none⟩)] rfl rfl (by (try simp only [List.map_toArray, List.map_cons, List.map_nil]); first | done | rfl | (simp only [List.length_drop, List.length_take]; rfl)) ?_; (with_reducible refine (rides_Of_1.calls ((rd_T28 x0_1 x6_1).f0) ((rd_T28 x0_1 x6_1).f1) ((rd_T28 x0_1 x6_1).f2) ((rd_T28 x0_1 x6_1).f3) ((rd_T28 x0_1 x6_1).f4) ((rd_T28 x0_1 x6_1).f5) ((rd_T28 x0_1 x6_1).f6) a1 false _ A11.out b_ (by first | exact hbx_ | exact (HB.out.cell (World.block_lt_of_cell? w _ hbx_)).trans hbx_ | exact cell_kept hbx_ (by repeat (first | exact HK.out | refine Kept.setCell ?_ (.inr GW513.out) _ | refine Kept.drewN ?_ _ | refine Kept.drew ?_ | refine Kept.alloc ?_ _)) hnb_)).mono ?_); rintro e w21 ⟨rfl, hb⟩; refine ⟨_, rfl, ?_⟩; have n0_ := Aside0.mk (Kd.R_below (by (with_reducible repeat (first | apply Kd.R_alloc | apply Kd.R_drewN | apply Kd.R_drew)); exact (Kd.R_mono (Kd.R_far (p := ⟨gb513, 6, none⟩) (Kd.R_far (p := ⟨gb513, 5, none⟩) (Kd.R_far (p := ⟨gb513, 4, none⟩) (Kd.R_far (p := ⟨gb513, 3, none⟩) (Kd.R_far (p := ⟨gb513, 2, none⟩) (Kd.R_far (p := ⟨gb513, 1, none⟩) (Kd.R_far (p := ⟨gb513, 0, none⟩) (Kd.R_mono HO_0.out (fun k_ hk => (⟨hk, hk.2⟩ : _ ∧ k_ ≠ gb513))) (fun _ hk => hk.2) (.int .i64 ((rd_T28 x0_1 x6_1).f0))) (fun _ hk => hk.2) (.int .i64 ((rd_T28 x0_1 x6_1).f1))) (fun _ hk => hk.2) (.int .i64 ((rd_T28 x0_1 x6_1).f2))) (fun _ hk => hk.2) (.int .i64 ((rd_T28 x0_1 x6_1).f3))) (fun _ hk => hk.2) (.int .i64 ((rd_T28 x0_1 x6_1).f4))) (fun _ hk => hk.2) (.int .i64 ((rd_T28 x0_1 x6_1).f5))) (fun _ hk => hk.2) (.int .i64 ((rd_T28 x0_1 x6_1).f6))) (fun _ h_ => h_.1))) hb); have n1_ := Aside0.mk (blk_below (g := gb513) (o := .cells #[.int .i64 ((rd_T28 x0_1 x6_1).f0), .int .i64 ((rd_T28 x0_1 x6_1).f1), .int .i64 ((rd_T28 x0_1 x6_1).f2), .int .i64 ((rd_T28 x0_1 x6_1).f3), .int .i64 ((rd_T28 x0_1 x6_1).f4), .int .i64 ((rd_T28 x0_1 x6_1).f5), .int .i64 ((rd_T28 x0_1 x6_1).f6)] 28 (0, 0)) (by (with_reducible repeat (first | refine blk_drewN ?_ _ | refine blk_drew ?_ | refine blk_alloc ?_ _)); refine blk_put (cs := #[.int .i64 ((rd_T28 x0_1 x6_1).f0), .int .i64 ((rd_T28 x0_1 x6_1).f1), .int .i64 ((rd_T28 x0_1 x6_1).f2), .int .i64 ((rd_T28 x0_1 x6_1).f3), .int .i64 ((rd_T28 x0_1 x6_1).f4), .int .i64 ((rd_T28 x0_1 x6_1).f5), .int .i64 0]) ?_ 6 _ rfl; (with_reducible repeat (first | refine blk_drewN ?_ _ | refine blk_drew ?_ | refine blk_alloc ?_ _)); refine blk_put (cs := #[.int .i64 ((rd_T28 x0_1 x6_1).f0), .int .i64 ((rd_T28 x0_1 x6_1).f1), .int .i64 ((rd_T28 x0_1 x6_1).f2), .int .i64 ((rd_T28 x0_1 x6_1).f3), .int .i64 ((rd_T28 x0_1 x6_1).f4), .int .i64 0, .int .i64 0]) ?_ 5 _ rfl; (with_reducible repeat (first | refine blk_drewN ?_ _ | refine blk_drew ?_ | refine blk_alloc ?_ _)); refine blk_put (cs := #[.int .i64 ((rd_T28 x0_1 x6_1).f0), .int .i64 ((rd_T28 x0_1 x6_1).f1), .int .i64 ((rd_T28 x0_1 x6_1).f2), .int .i64 ((rd_T28 x0_1 x6_1).f3), .int .i64 0, .int .i64 0, .int .i64 0]) ?_ 4 _ rfl; (with_reducible repeat (first | refine blk_drewN ?_ _ | refine blk_drew ?_ | refine blk_alloc ?_ _)); refine blk_put (cs := #[.int .i64 ((rd_T28 x0_1 x6_1).f0), .int .i64 ((rd_T28 x0_1 x6_1).f1), .int .i64 ((rd_T28 x0_1 x6_1).f2), .int .i64 0, .int .i64 0, .int .i64 0, .int .i64 0]) ?_ 3 _ rfl; (with_reducible repeat (first | refine blk_drewN ?_ _ | refine blk_drew ?_ | refine blk_alloc ?_ _)); refine blk_put (cs := #[.int .i64 ((rd_T28 x0_1 x6_1).f0), .int .i64 ((rd_T28 x0_1 x6_1).f1), .int .i64 0, .int .i64 0, .int .i64 0, .int .i64 0, .int .i64 0]) ?_ 2 _ rfl; (with_reducible repeat (first | refine blk_drewN ?_ _ | refine blk_drew ?_ | refine blk_alloc ?_ _)); refine blk_put (cs := #[.int .i64 ((rd_T28 x0_1 x6_1).f0), .int .i64 0, .int .i64 0, .int .i64 0, .int .i64 0, .int .i64 0, .int .i64 0]) ?_ 1 _ rfl; (with_reducible repeat (first | refine blk_drewN ?_ _ | refine blk_drew ?_ | refine blk_alloc ?_ _)); refine blk_put (cs := #[.int .i64 0, .int .i64 0, .int .i64 0, .int .i64 0, .int .i64 0, .int .i64 0, .int .i64 0]) ?_ 0 _ rfl; (with_reducible repeat (first | refine blk_drewN ?_ _ | refine blk_drew ?_ | refine blk_alloc ?_ _)); exact BK513.out) hb); have n2_ := Aside0.mk (Kept.below (S := (fun k_ => P0_ k_)) (by repeat (first | (with_reducible first | exact HK.out | apply Kept.alloc | apply Kept.drewN | apply Kept.drew | refine Kept.setCell ?_ (.inr GW513.out) _) | exact HK.out)) hb); have n3_ := Aside0.mk (below_step (by repeat (first | (with_reducible first | exact HB.out | apply below_alloc | apply pw_below_drewN | apply below_drew1 | refine below_set ?_ GE513.out) | exact HB.out)) hb); clear HO_0; clear BK513; clear HK; clear HB; have HO_0 := n0_; have BK513 := n1_; have HK := n2_; have HB := n3_; clear n0_ n1_ n2_ n3_; (try clear hb); (try clear hb2); (try clear hk); (try clear hi); have hcz22_0 : w21.cell? ⟨gb513, 0, none⟩ = some (.int .i64 ((rd_T28 x0_1 x6_1).f0)) := (blk_cell BK513.out 0).trans rfl; have hcz22_1 : w21.cell? ⟨gb513, 1, none⟩ = some (.int .i64 ((rd_T28 x0_1 x6_1).f1)) := (blk_cell BK513.out 1).trans rfl; have hcz22_2 : w21.cell? ⟨gb513, 2, none⟩ = some (.int .i64 ((rd_T28 x0_1 x6_1).f2)) := (blk_cell BK513.out 2).trans rfl; have hcz22_3 : w21.cell? ⟨gb513, 3, none⟩ = some (.int .i64 ((rd_T28 x0_1 x6_1).f3)) := (blk_cell BK513.out 3).trans rfl; have hcz22_4 : w21.cell? ⟨gb513, 4, none⟩ = some (.int .i64 ((rd_T28 x0_1 x6_1).f4)) := (blk_cell BK513.out 4).trans rfl; have hcz22_5 : w21.cell? ⟨gb513, 5, none⟩ = some (.int .i64 ((rd_T28 x0_1 x6_1).f5)) := (blk_cell BK513.out 5).trans rfl; have hcz22_6 : w21.cell? ⟨gb513, 6, none⟩ = some (.int .i64 ((rd_T28 x0_1 x6_1).f6)) := (blk_cell BK513.out 6).trans rfl; have hfz22_0 := blk_frozen BK513.out 0; have hfz22_1 := blk_frozen BK513.out 1; have hfz22_2 := blk_frozen BK513.out 2; have hfz22_3 := blk_frozen BK513.out 3; have hfz22_4 := blk_frozen BK513.out 4; have hfz22_5 := blk_frozen BK513.out 5; have hfz22_6 := blk_frozen BK513.out 6; have p18 : 0 ≤ (x5_1 : Int) := of_decide_eq_true (by first | (with_reducible assumption) | assumption); have q18 : (x5_1 : Int) < ((x0_1.length : Int) : Int) := of_decide_eq_true (by first | (with_reducible assumption) | assumption); obtain ⟨go18, co18, eo18, gb18, gl18, cl18, HG18⟩ := Kd.R_form HO_0.out (by omega); (first | cases eo18 | (injection eo18 with ea_ en_ ec_; (first | subst ea_ | (injection ea_ with ea_; subst ea_)); subst ec_; clear en_)); have GB18 := Aside0.mk gb18; have GG18 := Aside0.mk HG18; clear gb18 gl18 HG18; have HMgo18 := Aside0.mk (show (P0_ go18 ∨ w.heap.size ≤ go18) from (HO_0.out.1 _ rfl).1); (first | simp only [add_plain] at hx512_0 | skip); (first | simp only [add_plain] at hx512_1 | skip); (first | simp only [add_plain] at hx512_2 | skip); (first | simp only [add_plain] at hx512_3 | skip); (first | simp only [add_plain] at hx512_4 | skip); (first | simp only [add_plain] at hx512_5 | skip); (first | simp only [add_plain] at hx512_6 | skip); obtain ⟨ce18, hcl18, hM18, hcc18, hfr18⟩ := Kd.R_elem HO_0.out z28 (x5_1 : Int) p18 q18; obtain rfl := k28_openM hM18; have hx18_0 : w21.cell? ⟨go18, (x5_1 : Int).toNat * 7, none⟩ = some (.int .i64 ((rd_T28 x0_1 x5_1).f0)) := hcc18 0 _ rfl; have hx18_1 : w21.cell? ⟨go18, (x5_1 : Int).toNat * 7 + 1, none⟩ = some (.int .i64 ((rd_T28 x0_1 x5_1).f1)) := hcc18 1 _ rfl; have hx18_2 : w21.cell? ⟨go18, (x5_1 : Int).toNat * 7 + 2, none⟩ = some (.int .i64 ((rd_T28 x0_1 x5_1).f2)) := hcc18 2 _ rfl; have hx18_3 : w21.cell? ⟨go18, (x5_1 : Int).toNat * 7 + 3, none⟩ = some (.int .i64 ((rd_T28 x0_1 x5_1).f3)) := hcc18 3 _ rfl; have hx18_4 : w21.cell? ⟨go18, (x5_1 : Int).toNat * 7 + 4, none⟩ = some (.int .i64 ((rd_T28 x0_1 x5_1).f4)) := hcc18 4 _ rfl; have hx18_5 : w21.cell? ⟨go18, (x5_1 : Int).toNat * 7 + 5, none⟩ = some (.int .i64 ((rd_T28 x0_1 x5_1).f5)) := hcc18 5 _ rfl; have hx18_6 : w21.cell? ⟨go18, (x5_1 : Int).toNat * 7 + 6, none⟩ = some (.int .i64 ((rd_T28 x0_1 x5_1).f6)) := hcc18 6 _ rfl; have hf18_0 : w21.frozen? ⟨go18, (x5_1 : Int).toNat * 7, none⟩ = false := hfr18 0; have hf18_1 : w21.frozen? ⟨go18, (x5_1 : Int).toNat * 7 + 1, none⟩ = false := hfr18 1; have hf18_2 : w21.frozen? ⟨go18, (x5_1 : Int).toNat * 7 + 2, none⟩ = false := hfr18 2; have hf18_3 : w21.frozen? ⟨go18, (x5_1 : Int).toNat * 7 + 3, none⟩ = false := hfr18 3; have hf18_4 : w21.frozen? ⟨go18, (x5_1 : Int).toNat * 7 + 4, none⟩ = false := hfr18 4; have hf18_5 : w21.frozen? ⟨go18, (x5_1 : Int).toNat * 7 + 5, none⟩ = false := hfr18 5; have hf18_6 : w21.frozen? ⟨go18, (x5_1 : Int).toNat * 7 + 6, none⟩ = false := hfr18 6; clear hcl18 hcc18 hfr18 hM18; replace p18 := eq_true p18; replace q18 := eq_true q18; have HX23 := Aside0.mk (show Kd.R k28 28 w21 w0.heap.size (fun k_ => (P0_ k_ ∨ w.heap.size ≤ k_) ∧ k_ ≠ gb513) (.slice (some ⟨go18, 0, none⟩) x0_1.length co7) x0_1 from (by (with_reducible repeat (first | apply Kd.R_alloc | apply Kd.R_drewN | apply Kd.R_drew)); exact HO_0.out)); obtain ⟨ce23, hcl23, hM23, hcc23, hfr23⟩ := Kd.R_elem HX23.out z28 (x5_1 : Int) (of_decide_eq_true (by first | (with_reducible assumption) | assumption)) (by have h_ : (x5_1 : Int) < ((x0_1.length : Int) : Int) := of_decide_eq_true (by first | (with_reducible assumption) | assumption); first | exact h_ | (have e_ := (Kd.R_reads' HO_0.out).1; omega) | simpa using h_); obtain rfl := k28_openM hM23; have HP23 := Kd.R_seg HX23.out (x5_1 : Int) (of_decide_eq_true (by first | (with_reducible assumption) | assumption)) (by have h_ : (x5_1 : Int) < ((x0_1.length : Int) : Int) := of_decide_eq_true (by first | (with_reducible assumption) | assumption); first | exact h_ | (have e_ := (Kd.R_reads' HO_0.out).1; omega) | simpa using h_) (seg := [.int .i64 ((rd_T28 x0_1 x6_1).f0), .int .i64 ((rd_T28 x0_1 x6_1).f1), .int .i64 ((rd_T28 x0_1 x6_1).f2), .int .i64 ((rd_T28 x0_1 x6_1).f3), .int .i64 ((rd_T28 x0_1 x6_1).f4), .int .i64 ((rd_T28 x0_1 x6_1).f5), .int .i64 ((rd_T28 x0_1 x6_1).f6)]) (j := 0) hcl23 hcc23 (show 7 ≤ 7 from by decide) (x' := (⟨(rd_T28 x0_1 x6_1).f0, (rd_T28 x0_1 x6_1).f1, (rd_T28 x0_1 x6_1).f2, (rd_T28 x0_1 x6_1).f3, (rd_T28 x0_1 x6_1).f4, (rd_T28 x0_1 x6_1).f5, (rd_T28 x0_1 x6_1).f6⟩ : S28)) (k28_mkM _ _ _ (⟨(rd_T28 x0_1 x6_1).f0, (rd_T28 x0_1 x6_1).f1, (rd_T28 x0_1 x6_1).f2, (rd_T28 x0_1 x6_1).f3, (rd_T28 x0_1 x6_1).f4, (rd_T28 x0_1 x6_1).f5, (rd_T28 x0_1 x6_1).f6⟩ : S28) ) (fun _ hk => hk); have hx23_0 := hcc23 0 _ rfl; (try simp only [show (k28).sz = 7 from rfl, Nat.mul_one, Nat.add_zero] at hx23_0); have hf23_0 := hfr23 0; (try simp only [show (k28).sz = 7 from rfl, Nat.mul_one, Nat.add_zero] at hf23_0); have hx23_1 := hcc23 1 _ rfl; (try simp only [show (k28).sz = 7 from rfl, Nat.mul_one, Nat.add_zero] at hx23_1); have hf23_1 := hfr23 1; (try simp only [show (k28).sz = 7 from rfl, Nat.mul_one, Nat.add_zero] at hf23_1); have hx23_2 := hcc23 2 _ rfl; (try simp only [show (k28).sz = 7 from rfl, Nat.mul_one, Nat.add_zero] at hx23_2); have hf23_2 := hfr23 2; (try simp only [show (k28).sz = 7 from rfl, Nat.mul_one, Nat.add_zero] at hf23_2); have hx23_3 := hcc23 3 _ rfl; (try simp only [show (k28).sz = 7 from rfl, Nat.mul_one, Nat.add_zero] at hx23_3); have hf23_3 := hfr23 3; (try simp only [show (k28).sz = 7 from rfl, Nat.mul_one, Nat.add_zero] at hf23_3); have hx23_4 := hcc23 4 _ rfl; (try simp only [show (k28).sz = 7 from rfl, Nat.mul_one, Nat.add_zero] at hx23_4); have hf23_4 := hfr23 4; (try simp only [show (k28).sz = 7 from rfl, Nat.mul_one, Nat.add_zero] at hf23_4); have hx23_5 := hcc23 5 _ rfl; (try simp only [show (k28).sz = 7 from rfl, Nat.mul_one, Nat.add_zero] at hx23_5); have hf23_5 := hfr23 5; (try simp only [show (k28).sz = 7 from rfl, Nat.mul_one, Nat.add_zero] at hf23_5); have hx23_6 := hcc23 6 _ rfl; (try simp only [show (k28).sz = 7 from rfl, Nat.mul_one, Nat.add_zero] at hx23_6); have hf23_6 := hfr23 6; (try simp only [show (k28).sz = 7 from rfl, Nat.mul_one, Nat.add_zero] at hf23_6); clear hcl23 hcc23 hfr23 hM23) | ((with_reducible refine gate_store (t := 28) (p := 33) rfl ?_); refine store_event (t := 28) (p := 33) (v := ?vo_w24) (w1 := (((((((w21.setCell ⟨go18, (x5_1 : Int).toNat * 7, none⟩ (.int .i64 ((rd_T28 x0_1 x6_1).f0))).setCell ⟨go18, (x5_1 : Int).toNat * 7 + 1, none⟩ (.int .i64 ((rd_T28 x0_1 x6_1).f1))).setCell ⟨go18, (x5_1 : Int).toNat * 7 + 2, none⟩ (.int .i64 ((rd_T28 x0_1 x6_1).f2))).setCell ⟨go18, (x5_1 : Int).toNat * 7 + 3, none⟩ (.int .i64 ((rd_T28 x0_1 x6_1).f3))).setCell ⟨go18, (x5_1 : Int).toNat * 7 + 4, none⟩ (.int .i64 ((rd_T28 x0_1 x6_1).f4))).setCell ⟨go18, (x5_1 : Int).toNat * 7 + 5, none⟩ (.int .i64 ((rd_T28 x0_1 x6_1).f5))).setCell ⟨go18, (x5_1 : Int).toNat * 7 + 6, none⟩ (.int .i64 ((rd_T28 x0_1 x6_1).f6)))) ?hg ?ho ?hn ?hr ?_; (case ho => rfl); (case hg => rfl); (case hn => rfl); (case hr => first | (go_simp; done) | (go_simp; rfl)); intro w24 hw; have hg : w21.grownBy w24 (some go18) := (by rw [hw]; exact HP23.2); have hp_ : Kd.R k28 28 w24 w0.heap.size (fun k_ => (P0_ k_ ∨ w.heap.size ≤ k_) ∧ k_ ≠ gb513) (.slice (some ⟨go18, 0, none⟩) x0_1.length co7) y515 := (by rw [hw, Ny515.out]; exact HP23.1); clear HP23; have n0_ := Aside0.mk (hp_); have n1_ := Aside0.mk (blk_grown (g := gb513) (o := .cells #[.int .i64 ((rd_T28 x0_1 x6_1).f0), .int .i64 ((rd_T28 x0_1 x6_1).f1), .int .i64 ((rd_T28 x0_1 x6_1).f2), .int .i64 ((rd_T28 x0_1 x6_1).f3), .int .i64 ((rd_T28 x0_1 x6_1).f4), .int .i64 ((rd_T28 x0_1 x6_1).f5), .int .i64 ((rd_T28 x0_1 x6_1).f6)] 28 (0, 0)) (by (with_reducible repeat (first | refine blk_drewN ?_ _ | refine blk_drew ?_ | refine blk_alloc ?_ _)); exact BK513.out) hg (Kd.R_away HO_0.out (fun _ hk => hk.2))); have n2_ := Aside0.mk ((by rw [hw]; exact below_set (below_set (below_set (below_set (below_set (below_set (below_set (HB.out) GB18.out) GB18.out) GB18.out) GB18.out) GB18.out) GB18.out) GB18.out : Below w0.heap.size w0 w24)); have n3_ := Aside0.mk (Kept.of_grown (S := (fun k_ => P0_ k_)) hg (by repeat (first | (with_reducible first | exact HK.out | apply Kept.alloc | apply Kept.drewN | apply Kept.drew | refine Kept.setCell ?_ (.inr GW513.out) _) | exact HK.out)) (fun k_ e_ => (HO_0.out.1 k_ e_).1)); clear HO_0; clear BK513; clear HB; clear HK; have HO_0 := n0_; have BK513 := n1_; have HB := n2_; have HK := n3_; clear n0_ n1_ n2_ n3_; clear hg hw hp_))
         (try simp only [← hl0_1])
         go_roundg k1
         case measure => have := HK1.out; omega
         case rel => exact ⟨(y515), (wrap64 (x5_1 + 1)), (wrap64 (x6_1 + 1)), (by first | rfl | (simp; done) | (simp [*]; done)), (by first | rfl | (simp; done) | (simp [*]; done)), H', ⟨by have := HK1.out; omega⟩, ⟨by (try simp only [hl0_1]); (with_reducible repeat (first | apply Kd.R_alloc | apply Kd.R_drewN | apply Kd.R_drew)); exact Kd.R_mono HO_0.out (fun _ hk => hk.1)⟩, ⟨by repeat (first | (with_reducible first | exact HK.out | apply Kept.alloc | apply Kept.drewN | apply Kept.drew | refine Kept.setCell ?_ (.inr GW513.out) _) | exact HK.out)⟩, ⟨by repeat (first | (with_reducible first | exact HB.out | apply below_alloc | apply pw_below_drewN | apply below_drew1 | refine below_set ?_ GE513.out) | exact HB.out)⟩⟩
        ·rw [if_neg c17] at H
         exact absurd H (by simp)
       ·rw [if_neg c16] at H
        exact absurd H (by simp)
     ·rw [if_neg c10] at H
      exact absurd H (by simp)
    ·rw [if_neg c9] at H
     have c9b0 : decide (x6_1 < (x0_1.length : Int)) = false := decide_eq_false c9
     clear c9
     by_cases c25 : 0 ≤ x5_1
     ·rw [if_pos c25] at H
      have c25b0 := eq_true c25
      have c25b1 : decide (0 ≤ x5_1) = true := decide_eq_true c25
      clear c25
      by_cases c26 : x5_1 ≤ (x0_1.length : Int)
      ·rw [if_pos c26] at H
       have c26b0 := eq_true c26
       have c26b1 : decide (x5_1 ≤ (x0_1.length : Int)) = true := decide_eq_true c26
       clear c26
       obtain ⟨y516, hy516⟩ : ∃ y_ : List (S28), y_ = (x0_1.take (x5_1 : Int).toNat) := ⟨_, rfl⟩
       replace H : (some y516) = some r := by first | (rw [hy516]; with_reducible exact H) | (have H2_ := (Option.bind_some _ _).symm.trans H; rw [hy516]; with_reducible exact H2_) | (have H2_ := (Option.bind_some _ _).symm.trans H; with_reducible exact H2_) | with_reducible exact H | (rw [hy516]; exact H) | exact H
       have Ny516 := Aside0.mk hy516
       clear hy516
       obtain rfl := Option.some.inj H
       have q27 : (x5_1 : Int) ≤ ((x0_1.length : Int) : Int) := of_decide_eq_true (by first | (with_reducible assumption) | assumption)
       obtain ⟨i027, hi027, _, hsz27, _⟩ := info_parts info28
       have hcut27 := cut_to (P := Try.prog) 22 28 .i64 Try.underlying22 hi027 Ao7 x0_1.length co7 x5_1 (of_decide_eq_true (by first | (with_reducible assumption) | assumption)) q27 (Kd.R_reads' HO_0.out).2.1
       have hcl_ := cut_from (P := Try.prog) 22 28 .i64 Try.underlying22 hi027 7 hsz27 Ao7 x0_1.length co7 x5_1 (of_decide_eq_true (by first | (with_reducible assumption) | assumption)) q27
       have hy27 : y516.length = (x5_1 : Int).toNat := (by rw [Ny516.out, List.length_take]; omega)
       rw [← hy27] at hcut27
       clear hi027 hsz27
       have HY_ := Aside0.mk hy27
       clear hy27
       replace q27 := eq_true q27
       by_cases hce_ : co7 = (x5_1).toNat
       ·simp only [if_pos hce_] at hcl_; have HCE_ := Aside0.mk hce_; clear hce_
        go_wp2_with (((with_reducible refine gate_builtin (b := .clear) (xs := #[.tmp 38]) rfl ?_); refine Cl.clear_ev (d := k28) (base := w0.heap.size) rfl (.tmp 38) rfl Try.underlying22 (z := .agg #[.int .i64 0, .int .i64 0, .int .i64 0, .int .i64 0, .int .i64 0, .int .i64 0, .int .i64 0]) (fun w_ => by first | exact Try.zeroValue28 w_ | kernel_rfl) rfl (by intro u_ hu_; simp only [Value.cells, List.mem_cons, List.not_mem_nil, or_false] at hu_; rcases hu_ with rfl | rfl | rfl | rfl | rfl | rfl | rfl <;> rfl) (by decide) x5_1 (of_decide_eq_true (by first | (with_reducible assumption) | assumption)) (of_decide_eq_true (by first | (with_reducible assumption) | assumption)) HO_0.out (by rw [if_pos HCE_.out]; first | rfl | (simp; done)) ?_; intro w1_ ho_ hg_; rw [← Ny516.out, ← HY_.out] at ho_; have n0_ := Aside0.mk ho_; have n1_ := Aside0.mk (pw_below_grown HB.out _ HB.out.size hg_ (fun k_ e_ => ((Kd.R_bound HO_0.out).1 k_ e_).2.1)); have n2_ := Aside0.mk (Kept.of_grown hg_ HK.out (fun k_ e_ => HO_0.out.1 k_ e_)); clear HB HK HO_0; have HO518 := n0_; have HB := n1_; have HK := n2_; clear n0_ n1_ n2_ ho_ hg_))
        go_ret
        exact ⟨_, by first | rfl | (simp [errW_none, errW_some] <;> rfl) | (simp [*, errW_none, errW_some] <;> rfl), by (with_reducible repeat (first | apply Kd.R_alloc | apply Kd.R_drewN | apply Kd.R_drew)); exact HO518.out, by repeat (first | (with_reducible first | exact HB.out | apply below_alloc | apply pw_below_drewN | apply below_drew1) | exact HB.out), by repeat (first | (with_reducible first | exact HK.out | apply Kept.alloc | apply Kept.drewN | apply Kept.drew) | exact HK.out)⟩
       ·simp only [if_neg hce_] at hcl_
        go_wp2_with (((with_reducible refine gate_builtin (b := .clear) (xs := #[.tmp 38]) rfl ?_); refine Cl.clear_ev (d := k28) (base := w0.heap.size) rfl (.tmp 38) rfl Try.underlying22 (z := .agg #[.int .i64 0, .int .i64 0, .int .i64 0, .int .i64 0, .int .i64 0, .int .i64 0, .int .i64 0]) (fun w_ => by first | exact Try.zeroValue28 w_ | kernel_rfl) rfl (by intro u_ hu_; simp only [Value.cells, List.mem_cons, List.not_mem_nil, or_false] at hu_; rcases hu_ with rfl | rfl | rfl | rfl | rfl | rfl | rfl <;> rfl) (by decide) x5_1 (of_decide_eq_true (by first | (with_reducible assumption) | assumption)) (of_decide_eq_true (by first | (with_reducible assumption) | assumption)) HO_0.out (by rw [if_neg hce_]; first | rfl | (simp; done)) ?_; intro w1_ ho_ hg_; rw [← Ny516.out, ← HY_.out] at ho_; have n0_ := Aside0.mk ho_; have n1_ := Aside0.mk (pw_below_grown HB.out _ HB.out.size hg_ (fun k_ e_ => ((Kd.R_bound HO_0.out).1 k_ e_).2.1)); have n2_ := Aside0.mk (Kept.of_grown hg_ HK.out (fun k_ e_ => HO_0.out.1 k_ e_)); clear HB HK HO_0; have HO518 := n0_; have HB := n1_; have HK := n2_; clear n0_ n1_ n2_ ho_ hg_))
        go_ret
        exact ⟨_, by first | rfl | (simp [errW_none, errW_some] <;> rfl) | (simp [*, errW_none, errW_some] <;> rfl), by (with_reducible repeat (first | apply Kd.R_alloc | apply Kd.R_drewN | apply Kd.R_drew)); exact HO518.out, by repeat (first | (with_reducible first | exact HB.out | apply below_alloc | apply pw_below_drewN | apply below_drew1) | exact HB.out), by repeat (first | (with_reducible first | exact HK.out | apply Kept.alloc | apply Kept.drewN | apply Kept.drew) | exact HK.out)⟩
      ·rw [if_neg c26] at H
       exact absurd H (by simp)
     ·rw [if_neg c25] at H
      exact absurd H (by simp)

-- NOT PRINTED: function 35 (api_Ride_35)

/-! ### rides_Of: function 23 -/
def rides_Of.f (k : Nat) (l0 : List (S28)) (a1 : Int) : Option ((List (S28))) := (api_Ride_33.f l0).bind fun t520 => ((rides_Of_del.f k t520 a1).bind fun t523 => ((rides_Of_2_sort.f t523).bind fun t526 => (some t526)))
theorem rides_Of.mono : ∀ a0 a1 k, LeO (rides_Of.f k a0 a1) (rides_Of.f (k + 1) a0 a1) := by
 intro a0 a1 k
 unfold rides_Of.f
 repeat' first
   | (with_reducible exact rides_Of_del.mono _ _ _)
   | (with_reducible exact LeO.refl _)
   | (with_reducible exact LeO.none _)
   | (with_reducible refine LeO.ite ?_ ?_)
   | (with_reducible refine LeO.bind ?_ (fun _ => ?_))
   | exact rides_Of_del.mono _ _ _
   | exact LeO.none _
   | refine LeO.ite ?_ ?_
   | refine LeO.bind ?_ (fun _ => ?_)
set_option maxHeartbeats 8000000 in
set_option maxRecDepth 100000 in
theorem rides_Of.calls (k : Nat) (A0 : Option Addr) (c0 : Nat) (l0 : List (S28)) (a1 : Int) (r : List (S28)) (w : World) (hr0 : Kd.C k28 w A0 l0.length l0) (hc0 : l0.length ≤ c0) (h : rides_Of.f k l0 a1 = some r) :
  Calls Try.prog 23 #[.slice A0 l0.length c0, .int .i64 a1] w fun e w' => ∃ v0_ : Value, e = .returned (v0_) ∧ Kd.R k28 28 w' w.heap.size (fun _ => True) v0_ r ∧ Below w.heap.size w w' := by
 have HR0 := Aside0.mk hr0
 have HC0 := Aside0.mk hc0
 clear hr0 hc0
 have HB := Aside0.mk (Below.refl w.heap.size w)
 have H : ((api_Ride_33.f l0).bind fun t520 => ((rides_Of_del.f k t520 a1).bind fun t523 => ((rides_Of_2_sort.f t523).bind fun t526 => (some t526)))) = some r := h
 clear h
 replace H := Option.bind_eq_some_iff.mp H
 obtain ⟨t520, A30, H⟩ := H
 replace H : ((rides_Of_del.f k t520 a1).bind fun t523 => ((rides_Of_2_sort.f t523).bind fun t526 => (some t526))) = some r := H
 have A3 := Aside0.mk A30
 clear A30
 replace H := Option.bind_eq_some_iff.mp H
 obtain ⟨t523, A40, H⟩ := H
 replace H : ((rides_Of_2_sort.f t523).bind fun t526 => (some t526)) = some r := H
 have A4 := Aside0.mk A40
 clear A40
 replace H := Option.bind_eq_some_iff.mp H
 obtain ⟨t526, A50, H⟩ := H
 replace H : (some t526) = some r := H
 have A5 := Aside0.mk A50
 clear A50
 obtain rfl := Option.some.inj H
 go_enter Try.func23, Try.ntmps23
 go_wp2_with (first | ((with_reducible refine gate_dst (N := 3) rfl ?_); refine box_event ?hg (N := 3) ?hd (cs := #[.int .i64 a1]) (t := 3) ?hr ?_; (case hd => rfl); (case hg => rfl); (case hr => first | (go_simp; done) | (go_simp; rfl)); intro gb519 hg w6 hbox hb; have n0_ := Aside0.mk (below_step (by repeat (first | (with_reducible first | exact HB.out | apply below_alloc | apply pw_below_drewN | apply below_drew1) | exact HB.out)) hb); have n1_ := Aside0.mk (hbox); have n2_ := Aside0.mk ((by rw [hg]; exact (below_size (by repeat (first | (with_reducible first | exact HB.out | apply below_alloc | apply pw_below_drewN | apply below_drew1) | exact HB.out))) : w.heap.size ≤ gb519)); have n3_ := Aside0.mk ((by rw [hg]; exact (below_size (by repeat (first | (with_reducible first | exact HB.out | apply below_alloc | apply pw_below_drewN | apply below_drew1) | exact HB.out))) : w.heap.size ≤ gb519)); clear HB; have HB := n0_; have BK519 := n1_; have GW519 := n2_; have GE519 := n3_; clear n0_ n1_ n2_ n3_; clear hb hbox hg) | ((with_reducible refine gate_callee (f := 33) rfl ?_); refine goesL_ (some 7) rfl rfl Try.func33 (by kernel_rfl) rfl #[.slice A0 l0.length c0] rfl (by (try simp only [List.map_toArray, List.map_cons, List.map_nil]); first | done | rfl | (simp only [List.length_drop, List.length_take]; rfl)) ?_; (with_reducible refine (api_Ride_33.calls _ _ l0 t520 _ ?side1 ?side2 A3.out).mono ?_); (case side1 => repeat (first | exact (Kd.C_below HR0.out HB.out) | (with_reducible refine Kd.C_alloc ?_ _) | (with_reducible refine Kd.C_drewN ?_ _) | (with_reducible refine Kd.C_drew ?_))); (case side2 => exact HC0.out); rintro e w7 ⟨v521, rfl, ho0, hb⟩; refine ⟨_, rfl, ?_⟩; have n0_ := Aside0.mk (Kd.R_lower ho0 (below_size (by repeat (first | (with_reducible first | exact HB.out | apply below_alloc | apply pw_below_drewN | apply below_drew1 | refine below_set ?_ GE519.out) | exact HB.out)))); have n1_ := Aside0.mk (blk_below (g := gb519) (o := .cells #[.int .i64 a1] 3 (0, 0)) (by (with_reducible repeat (first | refine blk_drewN ?_ _ | refine blk_drew ?_ | refine blk_alloc ?_ _)); exact BK519.out) hb); have n2_ := Aside0.mk (below_step (by repeat (first | (with_reducible first | exact HB.out | apply below_alloc | apply pw_below_drewN | apply below_drew1 | refine below_set ?_ GE519.out) | exact HB.out)) hb); clear BK519; clear HB; have HO522 := n0_; have BK519 := n1_; have HB := n2_; clear n0_ n1_ n2_; (try clear hb); (try clear hb2); (try clear hk); (try clear hi); (try clear ho0); have hcz8_0 : w7.cell? ⟨gb519, 0, none⟩ = some (.int .i64 a1) := (blk_cell BK519.out 0).trans rfl; have hfz8_0 := blk_frozen BK519.out 0; obtain ⟨Ao9, co9, eo9⟩ := Kd.R_slice HO522.out; subst eo9) | ((with_reducible refine gate_callee (f := 35) rfl ?_); refine goesL_ (some 9) rfl rfl Try.func35 (by kernel_rfl) rfl #[.slice Ao9 t520.length co9, .func (.func 36) #[] #[.pointer (some ⟨gb519, 0, none⟩)]] rfl (by (try simp only [List.map_toArray, List.map_cons, List.map_nil]); first | done | rfl | (simp only [List.length_drop, List.length_take]; rfl)) ?_; (with_reducible refine (rides_Of_del.calls k (fun k_ => some k_ = (.slice Ao9 t520.length co9 : Value).ownBlock) (.slice Ao9 t520.length co9) t520 a1 t523 w _ ?side1 ?side2 A4.out gb519 ((blk_cell (by first | exact BK519.out | ((with_reducible repeat (first | refine blk_drewN ?_ _ | refine blk_drew ?_ | refine blk_alloc ?_ _)); exact BK519.out)) 0).trans rfl) (Kd.R_ne HO522.out BK519.out (by decide))).mono ?_); (case side1 => repeat (first | (with_reducible first | exact HB.out | apply below_alloc | apply pw_below_drewN | apply below_drew1 | refine below_set ?_ GE519.out) | exact HB.out)); (case side2 => exact Kd.R_tight rfl HO522.out); rintro e w10 ⟨v524, rfl, ho0, hb, hkp⟩; refine ⟨_, rfl, ?_⟩; have n0_ := Aside0.mk (blk_kept (by (with_reducible repeat (first | refine blk_drewN ?_ _ | refine blk_drew ?_ | refine blk_alloc ?_ _)); exact BK519.out) hkp (fun hs_ => (fun e_ => (Kd.R_ne HO522.out BK519.out (by decide)) e_) hs_)); have n1_ := Aside0.mk (Kd.R_mono (ok' := fun k_ => True) ho0 (fun k_ hk_ => trivial)); have n2_ := Aside0.mk (hb); clear BK519; clear HB; clear HO522; have BK519 := n0_; have HO525 := n1_; have HB := n2_; clear n0_ n1_ n2_; (try clear hb); (try clear hkp); (try clear ho0); obtain ⟨Ao11, co11, eo11⟩ := Kd.R_slice HO525.out; subst eo11) | ((with_reducible refine gate_callee (f := 34) rfl ?_); refine goesL_ (some 11) rfl rfl Try.func34 (by kernel_rfl) rfl #[.slice Ao11 t523.length co11, .func (.func 37) #[] #[]] rfl (by (try simp only [List.map_toArray, List.map_cons, List.map_nil]); first | done | rfl | (simp only [List.length_drop, List.length_take]; rfl)) ?_; (with_reducible refine (rides_Of_2_sort.calls (fun k_ => some k_ = (.slice Ao11 t523.length co11 : Value).ownBlock) (.slice Ao11 t523.length co11) t523  t526 w _ ?side1 ?side2 A5.out).mono ?_); (case side1 => repeat (first | (with_reducible first | exact HB.out | apply below_alloc | apply pw_below_drewN | apply below_drew1 | refine below_set ?_ GE519.out) | exact HB.out)); (case side2 => exact Kd.R_tight rfl HO525.out); rintro e w12 ⟨rfl, hy0, hb, hkp⟩; refine ⟨_, rfl, ?_⟩; have n0_ := Aside0.mk (blk_kept (by (with_reducible repeat (first | refine blk_drewN ?_ _ | refine blk_drew ?_ | refine blk_alloc ?_ _)); exact BK519.out) hkp (fun hs_ => (fun e_ => (Kd.R_ne HO525.out BK519.out (by decide)) e_) hs_)); have n1_ := Aside0.mk (Kd.R_reok rfl hy0 (fun k_ e_ => HO525.out.1 k_ e_)); have n2_ := Aside0.mk (hb); clear BK519; clear HO525; clear HB; have BK519 := n0_; have HO525 := n1_; have HB := n2_; clear n0_ n1_ n2_; (try clear hb); (try clear hkp); (try clear hy0)))
 go_ret
 exact ⟨_, by first | rfl | (simp [errW_none, errW_some] <;> rfl) | (simp [*, errW_none, errW_some] <;> rfl), by (with_reducible repeat (first | apply Kd.R_alloc | apply Kd.R_drewN | apply Kd.R_drew)); exact HO525.out, by repeat (first | (with_reducible first | exact HB.out | apply below_alloc | apply pw_below_drewN | apply below_drew1 | refine below_set ?_ GE519.out) | exact HB.out)⟩

/-! ### skiarearef31_earlier: function 40 -/
def skiarearef31_earlier.f (a0_0 : Int) (a0_1 : Int) (a0_2 : Int) (a0_3 : Int) (a0_4 : Int) (a0_5 : Int) (a0_6 : Int) (a1_0 : Int) (a1_1 : Int) (a1_2 : Int) (a1_3 : Int) (a1_4 : Int) (a1_5 : Int) (a1_6 : Int) : Option (Bool) := if a0_6 = a1_6 then (if a0_3 = a1_3 then ((skiarearef31_before.f a0_0 a0_1 a0_2 a0_3 a0_4 a0_5 a0_6 a1_0 a1_1 a1_2 a1_3 a1_4 a1_5 a1_6).bind fun t529 => (some t529)) else (some (decide (a0_3 < a1_3)))) else (some (decide (a0_6 < a1_6)))
set_option maxHeartbeats 8000000 in
set_option maxRecDepth 100000 in
theorem skiarearef31_earlier.calls (a0_0 : Int) (a0_1 : Int) (a0_2 : Int) (a0_3 : Int) (a0_4 : Int) (a0_5 : Int) (a0_6 : Int) (a1_0 : Int) (a1_1 : Int) (a1_2 : Int) (a1_3 : Int) (a1_4 : Int) (a1_5 : Int) (a1_6 : Int) (r : Bool) (w : World) (h : skiarearef31_earlier.f a0_0 a0_1 a0_2 a0_3 a0_4 a0_5 a0_6 a1_0 a1_1 a1_2 a1_3 a1_4 a1_5 a1_6 = some r) :
  Calls Try.prog 40 #[.agg #[.int .i64 a0_0, .int .i64 a0_1, .int .i64 a0_2, .int .i64 a0_3, .int .i64 a0_4, .int .i64 a0_5, .int .i64 a0_6], .agg #[.int .i64 a1_0, .int .i64 a1_1, .int .i64 a1_2, .int .i64 a1_3, .int .i64 a1_4, .int .i64 a1_5, .int .i64 a1_6]] w fun e w' => e = .returned (.bool r) ∧ Below w.heap.size w w' := by
 have hu28 := Try.underlying28
 have HB := Aside0.mk (Below.refl w.heap.size w)
 have H : (if a0_6 = a1_6 then (if a0_3 = a1_3 then ((skiarearef31_before.f a0_0 a0_1 a0_2 a0_3 a0_4 a0_5 a0_6 a1_0 a1_1 a1_2 a1_3 a1_4 a1_5 a1_6).bind fun t529 => (some t529)) else (some (decide (a0_3 < a1_3)))) else (some (decide (a0_6 < a1_6)))) = some r := h
 clear h
 by_cases c3 : a0_6 = a1_6
 ·rw [if_pos c3] at H
  have c3b0 : (a0_6 == a1_6) = true := beq_iff_eq.mpr c3
  have c3b1 : (a0_6 != a1_6) = false := bne_eq_false_iff_eq.mpr c3
  clear c3
  by_cases c4 : a0_3 = a1_3
  ·rw [if_pos c4] at H
   have c4b0 : (a0_3 == a1_3) = true := beq_iff_eq.mpr c4
   have c4b1 : (a0_3 != a1_3) = false := bne_eq_false_iff_eq.mpr c4
   clear c4
   replace H := Option.bind_eq_some_iff.mp H
   obtain ⟨t529, A50, H⟩ := H
   replace H : (some t529) = some r := H
   have A5 := Aside0.mk A50
   clear A50
   obtain rfl := Option.some.inj H
   go_enter Try.func40, Try.ntmps40
   go_wp2_with (first | ((with_reducible refine gate_dst (N := 2) rfl ?_); refine box_event ?hg (N := 2) ?hd (cs := #[.int .i64 a0_0, .int .i64 a0_1, .int .i64 a0_2, .int .i64 a0_3, .int .i64 a0_4, .int .i64 a0_5, .int .i64 a0_6]) (t := 28) ?hr ?_; (case hd => rfl); (case hg => rfl); (case hr => first | (go_simp; done) | (go_simp; rfl)); intro gb527 hg w6 hbox hb; have n0_ := Aside0.mk (below_step (by repeat (first | (with_reducible first | exact HB.out | apply below_alloc | apply pw_below_drewN | apply below_drew1) | exact HB.out)) hb); have n1_ := Aside0.mk (hbox); have n2_ := Aside0.mk ((by rw [hg]; exact (below_size (by repeat (first | (with_reducible first | exact HB.out | apply below_alloc | apply pw_below_drewN | apply below_drew1) | exact HB.out))) : w.heap.size ≤ gb527)); have n3_ := Aside0.mk ((by rw [hg]; exact (below_size (by repeat (first | (with_reducible first | exact HB.out | apply below_alloc | apply pw_below_drewN | apply below_drew1) | exact HB.out))) : w.heap.size ≤ gb527)); clear HB; have HB := n0_; have BK527 := n1_; have GW527 := n2_; have GE527 := n3_; clear n0_ n1_ n2_ n3_; clear hb hbox hg) | ((with_reducible refine gate_dst (N := 3) rfl ?_); refine box_event ?hg (N := 3) ?hd (cs := #[.int .i64 a1_0, .int .i64 a1_1, .int .i64 a1_2, .int .i64 a1_3, .int .i64 a1_4, .int .i64 a1_5, .int .i64 a1_6]) (t := 28) ?hr ?_; (case hd => rfl); (case hg => rfl); (case hr => first | (go_simp; done) | (go_simp; rfl)); intro gb528 hg w7 hbox hb; have n0_ := Aside0.mk (blk_below (g := gb527) (o := .cells #[.int .i64 a0_0, .int .i64 a0_1, .int .i64 a0_2, .int .i64 a0_3, .int .i64 a0_4, .int .i64 a0_5, .int .i64 a0_6] 28 (0, 0)) (by (with_reducible repeat (first | refine blk_drewN ?_ _ | refine blk_drew ?_ | refine blk_alloc ?_ _)); exact BK527.out) hb); have n1_ := Aside0.mk (below_step (by repeat (first | (with_reducible first | exact HB.out | apply below_alloc | apply pw_below_drewN | apply below_drew1 | refine below_set ?_ GE527.out) | exact HB.out)) hb); have n2_ := Aside0.mk (hbox); have n3_ := Aside0.mk ((by rw [hg]; exact (below_size (by repeat (first | (with_reducible first | exact HB.out | apply below_alloc | apply pw_below_drewN | apply below_drew1 | refine below_set ?_ GE527.out) | exact HB.out))) : w.heap.size ≤ gb528)); have n4_ := Aside0.mk ((by rw [hg]; exact (below_size (by repeat (first | (with_reducible first | exact HB.out | apply below_alloc | apply pw_below_drewN | apply below_drew1 | refine below_set ?_ GE527.out) | exact HB.out))) : w.heap.size ≤ gb528)); have n5_ := Aside0.mk ((by rw [hg]; exact Nat.ne_of_lt (blk_lt (g := gb527) (o := .cells #[.int .i64 a0_0, .int .i64 a0_1, .int .i64 a0_2, .int .i64 a0_3, .int .i64 a0_4, .int .i64 a0_5, .int .i64 a0_6] 28 (0, 0)) (by (with_reducible repeat (first | refine blk_drewN ?_ _ | refine blk_drew ?_ | refine blk_alloc ?_ _)); exact BK527.out)) : gb527 ≠ gb528)); have n6_ := Aside0.mk ((by rw [hg]; exact Nat.ne_of_gt (blk_lt (g := gb527) (o := .cells #[.int .i64 a0_0, .int .i64 a0_1, .int .i64 a0_2, .int .i64 a0_3, .int .i64 a0_4, .int .i64 a0_5, .int .i64 a0_6] 28 (0, 0)) (by (with_reducible repeat (first | refine blk_drewN ?_ _ | refine blk_drew ?_ | refine blk_alloc ?_ _)); exact BK527.out)) : gb528 ≠ gb527)); clear BK527; clear HB; have BK527 := n0_; have HB := n1_; have BK528 := n2_; have GW528 := n3_; have GE528 := n4_; have NB527_528 := n5_; have NB528_527 := n6_; clear n0_ n1_ n2_ n3_ n4_ n5_ n6_; clear hb hbox hg; have hnb8 := NB527_528.out; have hnc8 := NB528_527.out; have hcz9_0 : w7.cell? ⟨gb527, 0, none⟩ = some (.int .i64 a0_0) := (blk_cell BK527.out 0).trans rfl; have hcz9_1 : w7.cell? ⟨gb527, 1, none⟩ = some (.int .i64 a0_1) := (blk_cell BK527.out 1).trans rfl; have hcz9_2 : w7.cell? ⟨gb527, 2, none⟩ = some (.int .i64 a0_2) := (blk_cell BK527.out 2).trans rfl; have hcz9_3 : w7.cell? ⟨gb527, 3, none⟩ = some (.int .i64 a0_3) := (blk_cell BK527.out 3).trans rfl; have hcz9_4 : w7.cell? ⟨gb527, 4, none⟩ = some (.int .i64 a0_4) := (blk_cell BK527.out 4).trans rfl; have hcz9_5 : w7.cell? ⟨gb527, 5, none⟩ = some (.int .i64 a0_5) := (blk_cell BK527.out 5).trans rfl; have hcz9_6 : w7.cell? ⟨gb527, 6, none⟩ = some (.int .i64 a0_6) := (blk_cell BK527.out 6).trans rfl; have hfz9_0 := blk_frozen BK527.out 0; have hfz9_1 := blk_frozen BK527.out 1; have hfz9_2 := blk_frozen BK527.out 2; have hfz9_3 := blk_frozen BK527.out 3; have hfz9_4 := blk_frozen BK527.out 4; have hfz9_5 := blk_frozen BK527.out 5; have hfz9_6 := blk_frozen BK527.out 6; have hcz10_0 : w7.cell? ⟨gb528, 0, none⟩ = some (.int .i64 a1_0) := (blk_cell BK528.out 0).trans rfl; have hcz10_1 : w7.cell? ⟨gb528, 1, none⟩ = some (.int .i64 a1_1) := (blk_cell BK528.out 1).trans rfl; have hcz10_2 : w7.cell? ⟨gb528, 2, none⟩ = some (.int .i64 a1_2) := (blk_cell BK528.out 2).trans rfl; have hcz10_3 : w7.cell? ⟨gb528, 3, none⟩ = some (.int .i64 a1_3) := (blk_cell BK528.out 3).trans rfl; have hcz10_4 : w7.cell? ⟨gb528, 4, none⟩ = some (.int .i64 a1_4) := (blk_cell BK528.out 4).trans rfl; have hcz10_5 : w7.cell? ⟨gb528, 5, none⟩ = some (.int .i64 a1_5) := (blk_cell BK528.out 5).trans rfl; have hcz10_6 : w7.cell? ⟨gb528, 6, none⟩ = some (.int .i64 a1_6) := (blk_cell BK528.out 6).trans rfl; have hfz10_0 := blk_frozen BK528.out 0; have hfz10_1 := blk_frozen BK528.out 1; have hfz10_2 := blk_frozen BK528.out 2; have hfz10_3 := blk_frozen BK528.out 3; have hfz10_4 := blk_frozen BK528.out 4; have hfz10_5 := blk_frozen BK528.out 5; have hfz10_6 := blk_frozen BK528.out 6) | ((with_reducible refine gate_callee (f := 31) rfl ?_); refine goesL_ (some 7) rfl rfl Try.func31 (by kernel_rfl) rfl #[.agg #[.int .i64 a0_0, .int .i64 a0_1, .int .i64 a0_2, .int .i64 a0_3, .int .i64 a0_4, .int .i64 a0_5, .int .i64 a0_6], .agg #[.int .i64 a1_0, .int .i64 a1_1, .int .i64 a1_2, .int .i64 a1_3, .int .i64 a1_4, .int .i64 a1_5, .int .i64 a1_6]] rfl (by (try simp only [List.map_toArray, List.map_cons, List.map_nil]); first | done | rfl | (simp only [List.length_drop, List.length_take]; rfl)) ?_; (with_reducible refine (skiarearef31_before.calls a0_0 a0_1 a0_2 a0_3 a0_4 a0_5 a0_6 a1_0 a1_1 a1_2 a1_3 a1_4 a1_5 a1_6 t529 _ A5.out).mono ?_); rintro e w11 ⟨rfl, hb⟩; refine ⟨_, rfl, ?_⟩; have n0_ := Aside0.mk (blk_below (g := gb527) (o := .cells #[.int .i64 a0_0, .int .i64 a0_1, .int .i64 a0_2, .int .i64 a0_3, .int .i64 a0_4, .int .i64 a0_5, .int .i64 a0_6] 28 (0, 0)) (by (with_reducible repeat (first | refine blk_drewN ?_ _ | refine blk_drew ?_ | refine blk_alloc ?_ _)); exact BK527.out) hb); have n1_ := Aside0.mk (blk_below (g := gb528) (o := .cells #[.int .i64 a1_0, .int .i64 a1_1, .int .i64 a1_2, .int .i64 a1_3, .int .i64 a1_4, .int .i64 a1_5, .int .i64 a1_6] 28 (0, 0)) (by (with_reducible repeat (first | refine blk_drewN ?_ _ | refine blk_drew ?_ | refine blk_alloc ?_ _)); exact BK528.out) hb); have n2_ := Aside0.mk (below_step (by repeat (first | (with_reducible first | exact HB.out | apply below_alloc | apply pw_below_drewN | apply below_drew1 | refine below_set ?_ GE527.out | refine below_set ?_ GE528.out) | exact HB.out)) hb); clear BK527; clear BK528; clear HB; have BK527 := n0_; have BK528 := n1_; have HB := n2_; clear n0_ n1_ n2_; (try clear hb); (try clear hb2); (try clear hk); (try clear hi)))
   go_ret
   exact ⟨by first | rfl | (simp [errW_none, errW_some] <;> rfl) | (simp [*, errW_none, errW_some] <;> rfl), by repeat (first | (with_reducible first | exact HB.out | apply below_alloc | apply pw_below_drewN | apply below_drew1 | refine below_set ?_ GE527.out | refine below_set ?_ GE528.out) | exact HB.out)⟩
  ·rw [if_neg c4] at H
   have c4b0 : (a0_3 == a1_3) = false := beq_eq_false_iff_ne.mpr c4
   have c4b1 : (a0_3 != a1_3) = true := bne_iff_ne.mpr c4
   obtain rfl := Option.some.inj H
   go_enter Try.func40, Try.ntmps40
   go_wp2_with (first | ((with_reducible refine gate_dst (N := 2) rfl ?_); refine box_event ?hg (N := 2) ?hd (cs := #[.int .i64 a0_0, .int .i64 a0_1, .int .i64 a0_2, .int .i64 a0_3, .int .i64 a0_4, .int .i64 a0_5, .int .i64 a0_6]) (t := 28) ?hr ?_; (case hd => rfl); (case hg => rfl); (case hr => first | (go_simp; done) | (go_simp; rfl)); intro gb527 hg w12 hbox hb; have n0_ := Aside0.mk (below_step (by repeat (first | (with_reducible first | exact HB.out | apply below_alloc | apply pw_below_drewN | apply below_drew1) | exact HB.out)) hb); have n1_ := Aside0.mk (hbox); have n2_ := Aside0.mk ((by rw [hg]; exact (below_size (by repeat (first | (with_reducible first | exact HB.out | apply below_alloc | apply pw_below_drewN | apply below_drew1) | exact HB.out))) : w.heap.size ≤ gb527)); have n3_ := Aside0.mk ((by rw [hg]; exact (below_size (by repeat (first | (with_reducible first | exact HB.out | apply below_alloc | apply pw_below_drewN | apply below_drew1) | exact HB.out))) : w.heap.size ≤ gb527)); clear HB; have HB := n0_; have BK527 := n1_; have GW527 := n2_; have GE527 := n3_; clear n0_ n1_ n2_ n3_; clear hb hbox hg) | ((with_reducible refine gate_dst (N := 3) rfl ?_); refine box_event ?hg (N := 3) ?hd (cs := #[.int .i64 a1_0, .int .i64 a1_1, .int .i64 a1_2, .int .i64 a1_3, .int .i64 a1_4, .int .i64 a1_5, .int .i64 a1_6]) (t := 28) ?hr ?_; (case hd => rfl); (case hg => rfl); (case hr => first | (go_simp; done) | (go_simp; rfl)); intro gb528 hg w13 hbox hb; have n0_ := Aside0.mk (blk_below (g := gb527) (o := .cells #[.int .i64 a0_0, .int .i64 a0_1, .int .i64 a0_2, .int .i64 a0_3, .int .i64 a0_4, .int .i64 a0_5, .int .i64 a0_6] 28 (0, 0)) (by (with_reducible repeat (first | refine blk_drewN ?_ _ | refine blk_drew ?_ | refine blk_alloc ?_ _)); exact BK527.out) hb); have n1_ := Aside0.mk (below_step (by repeat (first | (with_reducible first | exact HB.out | apply below_alloc | apply pw_below_drewN | apply below_drew1 | refine below_set ?_ GE527.out) | exact HB.out)) hb); have n2_ := Aside0.mk (hbox); have n3_ := Aside0.mk ((by rw [hg]; exact (below_size (by repeat (first | (with_reducible first | exact HB.out | apply below_alloc | apply pw_below_drewN | apply below_drew1 | refine below_set ?_ GE527.out) | exact HB.out))) : w.heap.size ≤ gb528)); have n4_ := Aside0.mk ((by rw [hg]; exact (below_size (by repeat (first | (with_reducible first | exact HB.out | apply below_alloc | apply pw_below_drewN | apply below_drew1 | refine below_set ?_ GE527.out) | exact HB.out))) : w.heap.size ≤ gb528)); have n5_ := Aside0.mk ((by rw [hg]; exact Nat.ne_of_lt (blk_lt (g := gb527) (o := .cells #[.int .i64 a0_0, .int .i64 a0_1, .int .i64 a0_2, .int .i64 a0_3, .int .i64 a0_4, .int .i64 a0_5, .int .i64 a0_6] 28 (0, 0)) (by (with_reducible repeat (first | refine blk_drewN ?_ _ | refine blk_drew ?_ | refine blk_alloc ?_ _)); exact BK527.out)) : gb527 ≠ gb528)); have n6_ := Aside0.mk ((by rw [hg]; exact Nat.ne_of_gt (blk_lt (g := gb527) (o := .cells #[.int .i64 a0_0, .int .i64 a0_1, .int .i64 a0_2, .int .i64 a0_3, .int .i64 a0_4, .int .i64 a0_5, .int .i64 a0_6] 28 (0, 0)) (by (with_reducible repeat (first | refine blk_drewN ?_ _ | refine blk_drew ?_ | refine blk_alloc ?_ _)); exact BK527.out)) : gb528 ≠ gb527)); clear BK527; clear HB; have BK527 := n0_; have HB := n1_; have BK528 := n2_; have GW528 := n3_; have GE528 := n4_; have NB527_528 := n5_; have NB528_527 := n6_; clear n0_ n1_ n2_ n3_ n4_ n5_ n6_; clear hb hbox hg; have hnb14 := NB527_528.out; have hnc14 := NB528_527.out; have hcz15_0 : w13.cell? ⟨gb527, 0, none⟩ = some (.int .i64 a0_0) := (blk_cell BK527.out 0).trans rfl; have hcz15_1 : w13.cell? ⟨gb527, 1, none⟩ = some (.int .i64 a0_1) := (blk_cell BK527.out 1).trans rfl; have hcz15_2 : w13.cell? ⟨gb527, 2, none⟩ = some (.int .i64 a0_2) := (blk_cell BK527.out 2).trans rfl; have hcz15_3 : w13.cell? ⟨gb527, 3, none⟩ = some (.int .i64 a0_3) := (blk_cell BK527.out 3).trans rfl; have hcz15_4 : w13.cell? ⟨gb527, 4, none⟩ = some (.int .i64 a0_4) := (blk_cell BK527.out 4).trans rfl; have hcz15_5 : w13.cell? ⟨gb527, 5, none⟩ = some (.int .i64 a0_5) := (blk_cell BK527.out 5).trans rfl; have hcz15_6 : w13.cell? ⟨gb527, 6, none⟩ = some (.int .i64 a0_6) := (blk_cell BK527.out 6).trans rfl; have hfz15_0 := blk_frozen BK527.out 0; have hfz15_1 := blk_frozen BK527.out 1; have hfz15_2 := blk_frozen BK527.out 2; have hfz15_3 := blk_frozen BK527.out 3; have hfz15_4 := blk_frozen BK527.out 4; have hfz15_5 := blk_frozen BK527.out 5; have hfz15_6 := blk_frozen BK527.out 6; have hcz16_0 : w13.cell? ⟨gb528, 0, none⟩ = some (.int .i64 a1_0) := (blk_cell BK528.out 0).trans rfl; have hcz16_1 : w13.cell? ⟨gb528, 1, none⟩ = some (.int .i64 a1_1) := (blk_cell BK528.out 1).trans rfl; have hcz16_2 : w13.cell? ⟨gb528, 2, none⟩ = some (.int .i64 a1_2) := (blk_cell BK528.out 2).trans rfl; have hcz16_3 : w13.cell? ⟨gb528, 3, none⟩ = some (.int .i64 a1_3) := (blk_cell BK528.out 3).trans rfl; have hcz16_4 : w13.cell? ⟨gb528, 4, none⟩ = some (.int .i64 a1_4) := (blk_cell BK528.out 4).trans rfl; have hcz16_5 : w13.cell? ⟨gb528, 5, none⟩ = some (.int .i64 a1_5) := (blk_cell BK528.out 5).trans rfl; have hcz16_6 : w13.cell? ⟨gb528, 6, none⟩ = some (.int .i64 a1_6) := (blk_cell BK528.out 6).trans rfl; have hfz16_0 := blk_frozen BK528.out 0; have hfz16_1 := blk_frozen BK528.out 1; have hfz16_2 := blk_frozen BK528.out 2; have hfz16_3 := blk_frozen BK528.out 3; have hfz16_4 := blk_frozen BK528.out 4; have hfz16_5 := blk_frozen BK528.out 5; have hfz16_6 := blk_frozen BK528.out 6))
   go_ret
   exact ⟨by first | rfl | (simp [errW_none, errW_some] <;> rfl) | (simp [*, errW_none, errW_some] <;> rfl), by repeat (first | (with_reducible first | exact HB.out | apply below_alloc | apply pw_below_drewN | apply below_drew1 | refine below_set ?_ GE527.out | refine below_set ?_ GE528.out) | exact HB.out)⟩
 ·rw [if_neg c3] at H
  have c3b0 : (a0_6 == a1_6) = false := beq_eq_false_iff_ne.mpr c3
  have c3b1 : (a0_6 != a1_6) = true := bne_iff_ne.mpr c3
  obtain rfl := Option.some.inj H
  go_enter Try.func40, Try.ntmps40
  go_wp2_with (first | ((with_reducible refine gate_dst (N := 2) rfl ?_); refine box_event ?hg (N := 2) ?hd (cs := #[.int .i64 a0_0, .int .i64 a0_1, .int .i64 a0_2, .int .i64 a0_3, .int .i64 a0_4, .int .i64 a0_5, .int .i64 a0_6]) (t := 28) ?hr ?_; (case hd => rfl); (case hg => rfl); (case hr => first | (go_simp; done) | (go_simp; rfl)); intro gb527 hg w17 hbox hb; have n0_ := Aside0.mk (below_step (by repeat (first | (with_reducible first | exact HB.out | apply below_alloc | apply pw_below_drewN | apply below_drew1) | exact HB.out)) hb); have n1_ := Aside0.mk (hbox); have n2_ := Aside0.mk ((by rw [hg]; exact (below_size (by repeat (first | (with_reducible first | exact HB.out | apply below_alloc | apply pw_below_drewN | apply below_drew1) | exact HB.out))) : w.heap.size ≤ gb527)); have n3_ := Aside0.mk ((by rw [hg]; exact (below_size (by repeat (first | (with_reducible first | exact HB.out | apply below_alloc | apply pw_below_drewN | apply below_drew1) | exact HB.out))) : w.heap.size ≤ gb527)); clear HB; have HB := n0_; have BK527 := n1_; have GW527 := n2_; have GE527 := n3_; clear n0_ n1_ n2_ n3_; clear hb hbox hg) | ((with_reducible refine gate_dst (N := 3) rfl ?_); refine box_event ?hg (N := 3) ?hd (cs := #[.int .i64 a1_0, .int .i64 a1_1, .int .i64 a1_2, .int .i64 a1_3, .int .i64 a1_4, .int .i64 a1_5, .int .i64 a1_6]) (t := 28) ?hr ?_; (case hd => rfl); (case hg => rfl); (case hr => first | (go_simp; done) | (go_simp; rfl)); intro gb528 hg w18 hbox hb; have n0_ := Aside0.mk (blk_below (g := gb527) (o := .cells #[.int .i64 a0_0, .int .i64 a0_1, .int .i64 a0_2, .int .i64 a0_3, .int .i64 a0_4, .int .i64 a0_5, .int .i64 a0_6] 28 (0, 0)) (by (with_reducible repeat (first | refine blk_drewN ?_ _ | refine blk_drew ?_ | refine blk_alloc ?_ _)); exact BK527.out) hb); have n1_ := Aside0.mk (below_step (by repeat (first | (with_reducible first | exact HB.out | apply below_alloc | apply pw_below_drewN | apply below_drew1 | refine below_set ?_ GE527.out) | exact HB.out)) hb); have n2_ := Aside0.mk (hbox); have n3_ := Aside0.mk ((by rw [hg]; exact (below_size (by repeat (first | (with_reducible first | exact HB.out | apply below_alloc | apply pw_below_drewN | apply below_drew1 | refine below_set ?_ GE527.out) | exact HB.out))) : w.heap.size ≤ gb528)); have n4_ := Aside0.mk ((by rw [hg]; exact (below_size (by repeat (first | (with_reducible first | exact HB.out | apply below_alloc | apply pw_below_drewN | apply below_drew1 | refine below_set ?_ GE527.out) | exact HB.out))) : w.heap.size ≤ gb528)); have n5_ := Aside0.mk ((by rw [hg]; exact Nat.ne_of_lt (blk_lt (g := gb527) (o := .cells #[.int .i64 a0_0, .int .i64 a0_1, .int .i64 a0_2, .int .i64 a0_3, .int .i64 a0_4, .int .i64 a0_5, .int .i64 a0_6] 28 (0, 0)) (by (with_reducible repeat (first | refine blk_drewN ?_ _ | refine blk_drew ?_ | refine blk_alloc ?_ _)); exact BK527.out)) : gb527 ≠ gb528)); have n6_ := Aside0.mk ((by rw [hg]; exact Nat.ne_of_gt (blk_lt (g := gb527) (o := .cells #[.int .i64 a0_0, .int .i64 a0_1, .int .i64 a0_2, .int .i64 a0_3, .int .i64 a0_4, .int .i64 a0_5, .int .i64 a0_6] 28 (0, 0)) (by (with_reducible repeat (first | refine blk_drewN ?_ _ | refine blk_drew ?_ | refine blk_alloc ?_ _)); exact BK527.out)) : gb528 ≠ gb527)); clear BK527; clear HB; have BK527 := n0_; have HB := n1_; have BK528 := n2_; have GW528 := n3_; have GE528 := n4_; have NB527_528 := n5_; have NB528_527 := n6_; clear n0_ n1_ n2_ n3_ n4_ n5_ n6_; clear hb hbox hg; have hnb19 := NB527_528.out; have hnc19 := NB528_527.out; have hcz20_0 : w18.cell? ⟨gb527, 0, none⟩ = some (.int .i64 a0_0) := (blk_cell BK527.out 0).trans rfl; have hcz20_1 : w18.cell? ⟨gb527, 1, none⟩ = some (.int .i64 a0_1) := (blk_cell BK527.out 1).trans rfl; have hcz20_2 : w18.cell? ⟨gb527, 2, none⟩ = some (.int .i64 a0_2) := (blk_cell BK527.out 2).trans rfl; have hcz20_3 : w18.cell? ⟨gb527, 3, none⟩ = some (.int .i64 a0_3) := (blk_cell BK527.out 3).trans rfl; have hcz20_4 : w18.cell? ⟨gb527, 4, none⟩ = some (.int .i64 a0_4) := (blk_cell BK527.out 4).trans rfl; have hcz20_5 : w18.cell? ⟨gb527, 5, none⟩ = some (.int .i64 a0_5) := (blk_cell BK527.out 5).trans rfl; have hcz20_6 : w18.cell? ⟨gb527, 6, none⟩ = some (.int .i64 a0_6) := (blk_cell BK527.out 6).trans rfl; have hfz20_0 := blk_frozen BK527.out 0; have hfz20_1 := blk_frozen BK527.out 1; have hfz20_2 := blk_frozen BK527.out 2; have hfz20_3 := blk_frozen BK527.out 3; have hfz20_4 := blk_frozen BK527.out 4; have hfz20_5 := blk_frozen BK527.out 5; have hfz20_6 := blk_frozen BK527.out 6; have hcz21_0 : w18.cell? ⟨gb528, 0, none⟩ = some (.int .i64 a1_0) := (blk_cell BK528.out 0).trans rfl; have hcz21_1 : w18.cell? ⟨gb528, 1, none⟩ = some (.int .i64 a1_1) := (blk_cell BK528.out 1).trans rfl; have hcz21_2 : w18.cell? ⟨gb528, 2, none⟩ = some (.int .i64 a1_2) := (blk_cell BK528.out 2).trans rfl; have hcz21_3 : w18.cell? ⟨gb528, 3, none⟩ = some (.int .i64 a1_3) := (blk_cell BK528.out 3).trans rfl; have hcz21_4 : w18.cell? ⟨gb528, 4, none⟩ = some (.int .i64 a1_4) := (blk_cell BK528.out 4).trans rfl; have hcz21_5 : w18.cell? ⟨gb528, 5, none⟩ = some (.int .i64 a1_5) := (blk_cell BK528.out 5).trans rfl; have hcz21_6 : w18.cell? ⟨gb528, 6, none⟩ = some (.int .i64 a1_6) := (blk_cell BK528.out 6).trans rfl; have hfz21_0 := blk_frozen BK528.out 0; have hfz21_1 := blk_frozen BK528.out 1; have hfz21_2 := blk_frozen BK528.out 2; have hfz21_3 := blk_frozen BK528.out 3; have hfz21_4 := blk_frozen BK528.out 4; have hfz21_5 := blk_frozen BK528.out 5; have hfz21_6 := blk_frozen BK528.out 6))
  go_ret
  exact ⟨by first | rfl | (simp [errW_none, errW_some] <;> rfl) | (simp [*, errW_none, errW_some] <;> rfl), by repeat (first | (with_reducible first | exact HB.out | apply below_alloc | apply pw_below_drewN | apply below_drew1 | refine below_set ?_ GE527.out | refine below_set ?_ GE528.out) | exact HB.out)⟩

end Go.Proofs.Ytgohhekihfilbaa.M
