/- clear(s[j:]) at a row of the call's own: the first j elements stay. -/
import Derived.Test.YtgohhekihfilbaaWMore
import Derived.Laws.IdiomCopy
namespace Go.Proofs.Ytgohhekihfilbaa.Cl
open Go.RowKit Go.Proofs.YtgohhekihfilbaaW.PrintWords
set_option linter.unusedVariables false

theorem setCells_row {e : TypeId} (g : Nat) : ∀ (vs : List Value) (o : Nat) (w : World) (cur : Array Value), w.heap[g]? = some (.cells cur e (0, 0)) →
    ∃ cur', (w.setCells g o vs).heap[g]? = some (.cells cur' e (0, 0)) ∧ cur'.size = cur.size ∧ (∀ i, i < o → cur'[i]? = cur[i]?) ∧ w.grownBy (w.setCells g o vs) (some g)
  | [], o, w, cur, h => ⟨cur, h, rfl, fun _ _ => rfl, grown_of_below (Below.refl _ _) _⟩
  | v :: r, o, w, cur, h => by
    have h1 : (w.setCell ⟨g, o, none⟩ v).heap[g]? = some (.cells (cur.setIfInBounds o v) e (0, 0)) := by
      simp [World.setCell, Array.getElem?_modify, h]
    obtain ⟨cur', h2, h3, h4, h5⟩ := setCells_row g r (o + 1) _ _ h1
    refine ⟨cur', h2, by rw [h3]; simp, fun i hi => ?_, ⟨h5.os, h5.tape, h5.output, ?_, fun k hk hne => ?_⟩⟩
    · rw [h4 i (by omega), Array.getElem?_setIfInBounds, if_neg (by omega)]
    · show w.heap.size ≤ ((w.setCell ⟨g, o, none⟩ v).setCells g (o + 1) r).heap.size
      exact Nat.le_trans (by simp [World.setCell]) h5.size
    · rw [show (w.setCells g o (v :: r)) = ((w.setCell ⟨g, o, none⟩ v).setCells g (o + 1) r) from rfl, h5.block k (by simpa [World.setCell] using hk) hne]
      exact Below.heap_setCell w ⟨g, o, none⟩ v k (fun he => hne (by rw [he]))

section
variable {α : Type} {d : Kd α} {e base : Nat} {ok : Nat → Prop} {xs : List α} {W : World} {P : Program} {A : Option Addr} {c j : Nat}
theorem clear_run {t ty : TypeId} (ht : P.underlying t = some (.slice e)) {z : Value} (hz : ∀ w, (zeroValue e).run P w = .ok z w) (hzs : z.cells.size = d.sz) (hz1 : ∀ u ∈ z.cells.toList, u.oneCell' = true) (hs0 : 0 < d.sz)
    (HO : d.R e W base ok (.slice A xs.length c) xs) (hj : j ≤ xs.length) :
    ∃ W', (Builtin.clear_ #[t] ty #[.slice (if c = j then A else A.map (·.add (j * d.sz))) (xs.length - j) (c - j)]).run P W = .ok (.tuple #[]) W' ∧ d.R e W' base ok (.slice A j c) (xs.take j) ∧ W.grownBy W' (Value.slice A xs.length c).ownBlock := by
  have HT := Kd.R_take (m := j) HO hj
  obtain ⟨h0, inner, ⟨hl, ho⟩, hr⟩ := id HO
  rcases ho with ⟨hv, hn⟩ | ⟨g, cap, cur, hv, hb, hh, hc, hm, hs, htk⟩
  · obtain ⟨rfl, _, rfl⟩ : A = none ∧ xs.length = 0 ∧ c = 0 := by injection hv with h1 h2 h3; exact ⟨h1, h2, h3⟩
    refine ⟨W, ?_, HT, grown_of_below (Below.refl _ _) _⟩
    have : (if 0 = j then (none : Option Addr) else (none : Option Addr).map (·.add (j * d.sz))) = none := by split <;> rfl
    rw [this]
    simp [Builtin.clear_, run_underlying ht]
  · obtain ⟨rfl, rfl⟩ : A = some ⟨g, 0, none⟩ ∧ c = cap := by injection hv with h1 h2 h3; exact ⟨h1, h3⟩
    by_cases hn : xs.length - j = 0
    · refine ⟨W, ?_, HT, grown_of_below (Below.refl _ _) _⟩
      rw [hn]
      split <;> simp [Builtin.clear_, run_underlying ht]
    · rw [if_neg (by omega)]
      obtain ⟨m, hm'⟩ : ∃ m, xs.length - j = m + 1 := ⟨xs.length - j - 1, by omega⟩
      have hzl : (Builtin.zeroCells z.cells (m + 1)).toList.length = (m + 1) * d.sz := by simp [Builtin.zeroCells, hzs]
      have hin : ∀ i, i < (m + 1) * d.sz → j * d.sz + i < cur.size := by
        intro i hi
        have : (j + (m + 1)) * d.sz ≤ c * d.sz := Nat.mul_le_mul_right _ (by omega)
        rw [Nat.add_mul] at this
        omega
      have hz1' : ∀ v ∈ (Builtin.zeroCells z.cells (m + 1)).toList, v.oneCell' = true := by
        intro v hv
        simp only [Builtin.zeroCells, Array.toList_map, List.mem_map] at hv
        obtain ⟨i, _, rfl⟩ := hv
        have hlt : i % z.cells.size < z.cells.size := Nat.mod_lt _ (by omega)
        rw [getElem!_pos z.cells (i % z.cells.size) hlt]
        exact hz1 _ (by simp)
      have hst := run_storeCells_cells (P := P) g (j * d.sz) (Builtin.zeroCells z.cells (m + 1)).toList 0 W
        (by intro i hi; rw [hzl] at hi; rw [Nat.add_zero, blk_cell hh]; simp [hin i hi]) (by intro i hi; simp [World.frozen?, hh]) hz1'
      rw [Nat.add_zero] at hst
      obtain ⟨cur', k1, k2, k3, k4⟩ := setCells_row (e := e) g (Builtin.zeroCells z.cells (m + 1)).toList (j * d.sz) W cur hh
      have hadd : (some (⟨g, 0, none⟩ : Addr)).map (·.add (j * d.sz)) = some ⟨g, j * d.sz, none⟩ := congrArg some (add_plain g _)
      refine ⟨_, ?_, ?_, k4⟩
      · rw [hadd, hm']
        simp [Builtin.clear_, run_underlying ht, hz, hst]
      · have hxl : (xs.take j).length = j := by rw [List.length_take]; omega
        obtain ⟨q0, inner2, ⟨ql, qo⟩, qr⟩ := HT
        refine ⟨q0, inner2, ⟨ql, .inr ⟨g, c, cur', by rw [hxl], hb, k1, by omega, hm, by rw [k2, hs], ?_⟩⟩, ?_⟩
        · rcases qo with ⟨q1, _⟩ | ⟨g', cap', cur2, q1, _, q2, _, _, _, q3⟩
          · exact absurd q1 (by simp)
          · obtain ⟨rfl, rfl⟩ : g = g' ∧ c = cap' := by injection q1 with h1 h2 h3; injection h1 with h1; injection h1 with h1; exact ⟨h1, h3⟩
            rw [hh] at q2
            injection q2 with q2
            injection q2 with q2
            subst q2
            rw [← q3, hxl]
            refine List.ext_getElem? fun i => ?_
            by_cases hi : i < j * d.sz
            · rw [List.getElem?_take_of_lt hi, List.getElem?_take_of_lt hi, Array.getElem?_toList, Array.getElem?_toList, k3 i hi]
            · rw [List.getElem?_eq_none (by rw [List.length_take]; omega), List.getElem?_eq_none (by rw [List.length_take]; omega)]
        · exact qr.imp_ (fun p cs hp => Kd.M_grown hp k4 (fun k hk => by
            have := hk.2
            simpa [Value.ownBlock] using this))
end
section
variable {α : Type} {d : Kd α} {e base : Nat} {ok : Nat → Prop} {xs : List α} {W : World} {P : Program} {A : Option Addr} {c : Nat} {ops : Array Oper} {rest : List Oper} {o : Oper} {a : Act} {Q : Exit → Act → World → Prop}
theorem clear_ev {t : TypeId} (hg : o.guard = none) (s : Operand) (hop : o.op = .call { callee := .builtin .clear, args := #[s], argTypes := #[t] }) (ht : P.underlying t = some (.slice e)) {z : Value} (hz : ∀ w, (zeroValue e).run P w = .ok z w) (hzs : z.cells.size = d.sz) (hz1 : ∀ u ∈ z.cells.toList, u.oneCell' = true) (hs0 : 0 < d.sz)
    (j : Int) (h0 : 0 ≤ j) (hj : j ≤ xs.length) (HO : d.R e W base ok (.slice A xs.length c) xs) (hs : a.eval s = .slice (if c = j.toNat then A else A.map (·.add (j.toNat * d.sz))) (xs.length - j.toNat) (c - j.toNat))
    (h : ∀ w1, d.R e w1 base ok (.slice A j.toNat c) (xs.take j.toNat) → W.grownBy w1 (Value.slice A xs.length c).ownBlock → wpList P ops Q rest (a.put o.dst (.tuple #[])) w1) : wpList P ops Q (o :: rest) a W := by
  obtain ⟨W', hrun, h1, h2⟩ := clear_run (ty := o.type) ht hz hzs hz1 hs0 HO (j := j.toNat) (by omega)
  refine Kd.event_run hg (v := .tuple #[]) (w1 := W') ?_ (h W' h1 h2)
  obtain ⟨dst, op, ty, pos, after, guard⟩ := o
  simp only at hop
  subst hop
  show ((builtin .clear #[t] ty (#[s].map fun | .const _ => true | _ => false) (#[s].map a.eval)).run P W) = _
  rw [show (#[s].map a.eval) = #[a.eval s] by simp, hs, show ∀ (cs : Array Bool) (as : Array Value), builtin .clear #[t] ty cs as = (do pure (.value (← Builtin.clear_ #[t] ty as))) from fun _ _ => rfl]
  simp [hrun, Result.andThen]
end
end Go.Proofs.Ytgohhekihfilbaa.Cl
