/- 'Below' with the count of the tape's questions: a call that lays blocks of its own and asks: what the sort's contract wants to know of the function that compares. -/
import Derived.Test.YtgohhekihfilbaaWWords
import Derived.Sort.Grow
namespace Go.Proofs.Ytgohhekihfilbaa.Dr
open Go.RowKit Go.Proofs.YtgohhekihfilbaaW.PrintWords Go.Sort
set_option linter.unusedVariables false

structure BD (B : Nat) (w W : World) : Prop where
  b : Below B w W
  d : w.drawn ≤ W.drawn

section
variable {B : Nat} {w W w2 : World} {g j : Nat} {v : Value} {o : Obj}
theorem BD.refl (B : Nat) (w : World) : BD B w w := ⟨Below.refl B w, Nat.le_refl _⟩
theorem bd_size (h : BD w.heap.size w W) : w.heap.size ≤ W.heap.size := h.b.size
theorem bd_alloc (h : BD w.heap.size w W) (o : Obj) : BD w.heap.size w (W.alloc o) := ⟨below_alloc h.b o, h.d⟩
theorem bd_drewN (h : BD B w W) (n : Nat) : BD B w (W.drewN n) := ⟨pw_below_drewN h.b n, Nat.le_trans h.d (Nat.le_add_right _ _)⟩
theorem bd_drew1 (h : BD B w W) : BD B w W.drew := ⟨h.b.drew, Nat.le_trans h.d (Nat.le_succ _)⟩
theorem bd_set (h : BD w.heap.size w W) (hg : w.heap.size ≤ g) : BD w.heap.size w (W.setCell ⟨g, j, none⟩ v) := ⟨below_set h.b hg, h.d⟩
theorem bd_step (h : BD w.heap.size w W) (k : BD W.heap.size W w2) : BD w.heap.size w w2 := ⟨below_step h.b k.b, Nat.le_trans h.d k.d⟩
theorem bd_blk_below (h : w.heap[g]? = some o) (hb : BD w.heap.size w W) : W.heap[g]? = some o := blk_below h hb.b
/-- New blocks and questions: nothing else. -/
theorem BD.grow (h : BD w.heap.size w W) : ∃ q os, W = Go.Sort.grow (w.drewN q) os := by
  refine ⟨W.drawn - w.drawn, W.heap.extract w.heap.size W.heap.size, ?_⟩
  have e1 : W.heap = w.heap ++ W.heap.extract w.heap.size W.heap.size := by
    apply Array.ext_getElem?
    intro i
    rw [Array.getElem?_append]
    by_cases hi : i < w.heap.size
    · rw [if_pos hi, h.b.block i hi]
    · rw [if_neg hi, Array.getElem?_extract]
      have := h.b.size
      by_cases h2 : i < W.heap.size
      · rw [if_pos (by omega), show w.heap.size + (i - w.heap.size) = i by omega]
      · rw [if_neg (by omega), Array.getElem?_eq_none (by omega)]
  have e2 : W.drawn = w.drawn + (W.drawn - w.drawn) := by have := h.d; omega
  cases W with
  | mk heap tape drawn os output =>
    have h1 := h.b.os; have h2 := h.b.tape; have h3 := h.b.output
    simp only [Go.Sort.grow, World.drewN] at *
    subst h1 h2 h3
    rw [← e1, ← e2]
end

section
variable {P : Program} {ops : Array Oper} {rest : List Oper} {o : Oper} {a : Act} {Q : Exit → Act → World → Prop}
theorem bd_box_event {W : World} (hgd : o.guard = none) {N : Tmp} (_hd : o.dst = some N) {cs : Array Value} {t : TypeId}
    (hrun : (execOp a.eval o).run P W = .ok (.value (.pointer (some ⟨W.heap.size, 0, none⟩))) (W.alloc (.cells cs t (0, 0))))
    (h : ∀ g, g = W.heap.size → ∀ w1, w1.heap[g]? = some (.cells cs t (0, 0)) → BD W.heap.size W w1 → wpList P ops Q rest (a.put o.dst (.pointer (some ⟨g, 0, none⟩))) w1) : wpList P ops Q (o :: rest) a W :=
  Kd.event_run hgd hrun (h _ rfl _ (blk_new W _) (bd_alloc (BD.refl _ _) _))
end
section
variable {P : Program} {ops : Array Oper} {o : Oper} {a : Act} {Q : Exit → Act → World → Prop} {Kc : Act → World → Prop} {α : Type}
theorem bd_lit_step (d : Kd α) {w0 W : World} (base e : Nat) (hw : Region.wanted o (yielded ops a.tmps) = true) {N : Tmp} (_hd : o.dst = some N) {xs : List α} {inner : List Value} {ok okp : Nat → Prop}
    (hrun : (execOp a.eval o).run P W = .ok (.value (.slice (some ⟨W.heap.size, 0, none⟩) xs.length xs.length)) (W.alloc (.cells inner.toArray e)))
    (hrep : Reps (d.M W base okp) d.sz xs inner) (hok : ∀ k, okp k → ok k) (hfresh : ok W.heap.size) (HB : BD w0.heap.size w0 W) (hbase : base ≤ W.heap.size) (hm : xs.length ≤ 9223372036854775807)
    (h : ∀ v1 w1, d.R e w1 base ok v1 xs → BD w0.heap.size w0 w1 → W.grownBy w1 none → (∃ b, v1.ownBlock = some b ∧ W.heap.size ≤ b) → Kc (a.put o.dst v1) w1) : if Region.wanted o (yielded ops a.tmps) = true then Oper.wp P o a W Kc Q else Kc (a.put o.dst undef) W := by
  refine event_step hw hrun (h _ _ ⟨fun k hk => ?_, ?_⟩ (bd_alloc HB _) (World.grownBy_alloc W _ none) ⟨W.heap.size, by simp [Value.ownBlock], Nat.le_refl _⟩)
  · have h1 : W.heap.size = k := by simpa [Value.ownBlock] using hk
    exact h1 ▸ hfresh
  · refine OwnRow.lit W base (hrep.imp_ fun p c hp => ?_) hbase hm
    refine d.M_mono (fun k hk => ⟨hok k hk.1, fun he => ?_⟩) (Kd.M_below (d.M_bound hp) (below_alloc (Below.refl _ _) _))
    have h3 : k = W.heap.size := by simpa [Value.ownBlock] using he
    have := hk.2.2.1
    omega
end
end Go.Proofs.Ytgohhekihfilbaa.Dr
