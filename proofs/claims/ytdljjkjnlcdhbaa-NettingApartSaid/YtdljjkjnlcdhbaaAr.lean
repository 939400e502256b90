/- An array of whole numbers in a variable: a row of the call's own that is the whole of its block. -/
import Derived.Test.YtdljjkjnlcdhbaaWMore
import Derived.ChangeKeysEq
import Derived.Laws.StructEq
namespace Go.Proofs.Ytdljjkjnlcdhbaa.Ar
open Go.RowKit Go.Proofs.YtdljjkjnlcdhbaaW.PrintWords
set_option linter.unusedVariables false
section
variable {g e base n : Nat} {ok : Nat → Prop} {W : World} {L : List Int}
theorem reps_int (L : List Int) : Reps (fun (x : Int) (cs : List Value) => cs = [.int .i64 x]) 1 L (L.map (Value.int .i64)) := by
  refine ⟨by simp, fun j p hj => ?_⟩
  rw [Nat.mul_one]
  obtain ⟨hlt, rfl⟩ := List.getElem?_eq_some_iff.1 hj
  rw [List.drop_eq_getElem_cons (by simpa using hlt)]
  simp
theorem R_of_row (h : W.heap[g]? = some (.cells (L.map (Value.int .i64)).toArray e (0, 0))) (hb : base ≤ g) (hok : ok g) (hm : L.length ≤ maxLen) : (Kd.int .i64).R e W base ok (.slice (some ⟨g, 0, none⟩) L.length L.length) L := by
  refine ⟨fun k hk => ?_, L.map (Value.int .i64), ⟨by show _ = L.length * 1; simp, .inr ⟨g, L.length, _, rfl, hb, h, Nat.le_refl _, hm, by show _ = L.length * 1; simp, ?_⟩⟩, reps_int L⟩
  · have : g = k := by simpa [Value.ownBlock] using hk
    exact this ▸ hok
  · show List.take (L.length * 1) _ = _
    rw [List.take_of_length_le (by simp)]
theorem row_of_R (h : (Kd.int .i64).R e W base ok (.slice (some ⟨g, 0, none⟩) n n) L) : L.length = n ∧ W.heap[g]? = some (.cells (L.map (Value.int .i64)).toArray e (0, 0)) := by
  obtain ⟨_, inner, ⟨hl, ho⟩, hr⟩ := h
  rcases ho with ⟨hv, _⟩ | ⟨g', cap, cur, hv, _, hh, _, _, hs, ht⟩
  · cases hv
  · obtain ⟨rfl, h2, rfl⟩ : g = g' ∧ n = L.length ∧ n = cap := by injection hv with h1 h2 h3; injection h1 with h1; injection h1 with h1; exact ⟨h1, h2, h3⟩
    subst h2
    refine ⟨rfl, ?_⟩
    rw [hh]
    have hs' : cur.size = L.length := by rw [hs]; exact Nat.mul_one _
    have ht' : cur.toList.take (L.length * 1) = inner := ht
    rw [List.take_of_length_le (by simp [hs'])] at ht'
    have e1 : cur.toList = L.map (Value.int .i64) := by
      rw [ht']
      refine List.ext_getElem? fun j => ?_
      by_cases hj : j < L.length
      · have h3 := hr.2 j L[j] (List.getElem?_eq_getElem hj)
        have h4 : (inner.drop (j * 1)).take 1 = [.int .i64 L[j]] := h3
        rw [Nat.mul_one] at h4
        have h5 : (inner.drop j)[0]? = some (.int .i64 L[j]) := by
          have := congrArg (fun l => l[0]?) h4
          simpa using this
        rw [List.getElem?_drop, Nat.add_zero] at h5
        rw [h5]
        simp [hj]
      · have : inner.length = L.length := by rw [hr.1]; exact Nat.mul_one _
        rw [List.getElem?_eq_none (by omega), List.getElem?_eq_none (by simpa using hj)]
    have e2 : cur = (L.map (Value.int .i64)).toArray := by rw [← e1]
    rw [e2]
end
section
variable {P : Program} {W : World} {g : Nat}
/-- The whole array is loaded. -/
theorem load_arr {t ty e : TypeId} {n : Nat} {L : List Int} (h : W.heap[g]? = some (.cells (L.map (Value.int .i64)).toArray t (0, 0))) (hu : P.underlying ty = some (.array n e)) (hi : (P.info? ty).map (·.size) = some L.length) :
    (Instr.loadAt ty (.pointer (some ⟨g, 0, none⟩))).run P W = .ok (.agg (L.map (Value.int .i64)).toArray) W := by
  simp only [Instr.loadAt, Instr.sureAddr, Sem.run_bind, Sem.run_pure, Result.andThen_ok, run_loadVar_row W g t ty _ (0, 0) _ h hu rfl (by rw [hi]; simp)]
/-- Is it all 0? -/
theorem eql_arr {t e : TypeId} {n : Nat} {i : TypeInfo} {L : List Int} (hu : P.underlying t = some (.array n e)) (he : P.underlying e = some (.int .i64)) (hi : P.info? e = some i) (hc : P.cellsOf e = 1) (ha : ∀ w, (isAgg e).run P w = .ok false w) (hL : L.length = n) (W : World) :
    (binOp .eql t (.agg (L.map (Value.int .i64)).toArray) (.agg ((List.replicate n 0).map (Value.int .i64)).toArray)).run P W = .ok (.bool (L.all fun x => x == 0)) W := by
  have key : ∀ is : List Nat, (∀ j ∈ is, j < n) → (Op.eqItems 9999 e (P.cellsOf e) (L.map (Value.int .i64)).toArray ((List.replicate n (0 : Int)).map (Value.int .i64)).toArray is).run P W = .ok (is.all fun j => L.getD j 0 == 0) W := by
    intro is
    induction is with
    | nil => intro _; simp [Op.eqItems]
    | cons j is ih =>
      intro hj
      have h1 : j < L.length := by rw [hL]; exact hj j (by simp)
      have h2 : j < n := hj j (by simp)
      have p1 : (part e (L.map (Value.int .i64)).toArray (j * P.cellsOf e)).run P W = .ok (.int .i64 L[j]) W := by
        simp [part, ha, hc, h1]
      have p2 : (part e ((List.replicate n (0 : Int)).map (Value.int .i64)).toArray (j * P.cellsOf e)).run P W = .ok (.int .i64 0) W := by
        simp [part, ha, hc, h2]
      have p3 : (Op.equalIn 9999 e (.int .i64 L[j]) (.int .i64 0)).run P W = .ok (L[j] == 0) W := run_equalIn_int W 9998 e .i64 .i64 L[j] 0 he
      simp only [Op.eqItems, Sem.run_bind, p1, p2, p3, Result.andThen_ok]
      by_cases hz : L[j] = 0
      · have hb : (L[j] == 0) = true := by simpa using hz
        rw [hb]
        simp only [Bool.not_true, Bool.false_eq_true, if_false]
        rw [ih (fun j' hj' => hj j' (by simp [hj'])), List.all_cons]
        simp [h1, hz]
      · have hb : (L[j] == 0) = false := by simpa using hz
        rw [hb]
        simp only [Bool.not_false, if_true]
        rw [List.all_cons]
        simp [h1, hz]
  rw [run_eql_struct, run_equalIn_array W 9999 _ _ hu hi, key (List.range n) (fun j hj => List.mem_range.1 hj)]
  simp only [Result.andThen_ok]
  congr 2
  rw [Bool.eq_iff_iff, List.all_eq_true, List.all_eq_true]
  constructor
  · intro h x hx
    obtain ⟨j, hj, rfl⟩ := List.getElem_of_mem hx
    have := h j (List.mem_range.2 (by omega))
    simpa [hj] using this
  · intro h j hj
    have hj' : j < L.length := by rw [hL]; exact List.mem_range.1 hj
    have := h L[j] (List.getElem_mem hj')
    simpa [hj'] using this
end
section
variable {P : Program} {ops : Array Oper} {rest : List Oper} {o : Oper} {a : Act} {Q : Exit → Act → World → Prop} {W : World} {g : Nat} {L : List Int}
theorem load_ev (hg : o.guard = none) {t ty e : TypeId} {n : Nat} {p : Tmp} (ho : o.op = .load ty (.tmp p)) (hp : a.eval (.tmp p) = .pointer (some ⟨g, 0, none⟩)) (hh : W.heap[g]? = some (.cells (L.map (Value.int .i64)).toArray t (0, 0)))
    (hu : P.underlying ty = some (.array n e)) (hi : (P.info? ty).map (·.size) = some L.length) (h : wpList P ops Q rest (a.put o.dst (.agg (L.map (Value.int .i64)).toArray)) W) : wpList P ops Q (o :: rest) a W := by
  refine Kd.event_run hg ?_ h
  simp only [execOp, ho, hp, Sem.run_bind, Sem.run_pure, load_arr hh hu hi, Result.andThen_ok]
theorem eql_ev (hg : o.guard = none) {t ty e : TypeId} {n : Nat} {x y : Operand} (ho : o.op = .binOp .eql t x y ty) (hx : a.eval x = .agg (L.map (Value.int .i64)).toArray) (hy : a.eval y = .agg ((List.replicate n 0).map (Value.int .i64)).toArray)
    (hu : P.underlying t = some (.array n e)) (he : P.underlying e = some (.int .i64)) (hi : ∃ i, P.info? e = some i) (hc : P.cellsOf e = 1) (ha : ∀ w, (isAgg e).run P w = .ok false w) (hq : P.eqGuardType P.depth t = false) (hL : L.length = n)
    (h : wpList P ops Q rest (a.put o.dst (.bool (L.all fun x => x == 0))) W) : wpList P ops Q (o :: rest) a W := by
  refine Kd.event_run hg ?_ h
  obtain ⟨i, hi⟩ := hi
  have e1 := eql_arr (L := L) hu he hi hc ha hL W
  have e2 : (eqGuard .eql t x y (.agg (L.map (Value.int .i64)).toArray) (.agg ((List.replicate n 0).map (Value.int .i64)).toArray)).run P W = .ok () W := by
    exact run_eqGuard_agg W .eql t x y _ _ hq
  simp only [execOp, ho, hx, hy, Sem.run_bind, Sem.run_pure, e2, e1, Result.andThen_ok]
end
end Go.Proofs.Ytdljjkjnlcdhbaa.Ar
