/- slices.SortFunc over a row of the call's own (rows of structs of plain cells): the shelf's contract, told in the words of the printed contracts: the row then holds the list that the sort's plain twin makes, and that list is the ordered permutation. -/
import Derived.Test.YtgohhekihfilbaaWWords
import Derived.Test.YtgohhekihfilbaaWKept
import Derived.Shelf.SlSortCmp.WholeK
namespace Go.Proofs.Ytgohhekihfilbaa.Sr
open Go.RowKit Go.Proofs.YtgohhekihfilbaaW.PrintWords Go.Sort Go.Shelf
set_option linter.unusedVariables false
set_option linter.unusedSectionVars false

/-- A kind whose cells are told by the value alone. -/
structure Plain {α : Type} (d : Kd α) (enc : α → List Value) : Prop where
  open_ : ∀ {w : World} {base : Nat} {ok : Nat → Prop} {x : α} {cs : List Value}, d.M w base ok x cs → cs = enc x
  mk_ : ∀ (w : World) (base : Nat) (ok : Nat → Prop) (x : α), d.M w base ok x (enc x)
  len : ∀ x, (enc x).length = d.sz
  pos : 0 < d.sz
  one : ∀ x, ∀ v ∈ enc x, v.oneCell' = true

section
variable {α : Type} [Inhabited α] {enc : α → List Value} {k : Nat}

theorem reps_get {xs : List α} {inner : List Value} (hk : ∀ x, (enc x).length = k) (k0 : 0 < k) (h : Reps (fun x cs => cs = enc x) k xs inner) (t : Nat) (ht : t < xs.length * k) :
    inner[t]? = some ((enc xs.toArray[t / k]!)[t % k]!) := by
  have hj : t / k < xs.length := (Nat.div_lt_iff_lt_mul k0).2 ht
  have hm : t % k < k := Nat.mod_lt _ k0
  have h2 := h.2 (t / k) xs[t / k] (List.getElem?_eq_getElem hj)
  have h3 : (inner.drop (t / k * k))[t % k]? = inner[t]? := by
    rw [List.getElem?_drop, Nat.div_add_mod']
  rw [← h3, ← List.getElem?_take_of_lt hm, h2, List.getElem?_eq_getElem (by rw [hk]; exact hm)]
  simp [hj, hk, hm]

theorem reps_of_get {xs : List α} {inner : List Value} (hk : ∀ x, (enc x).length = k) (hl : inner.length = xs.length * k) (h : ∀ t, t < xs.length * k → inner[t]? = some ((enc xs.toArray[t / k]!)[t % k]!)) :
    Reps (fun x cs => cs = enc x) k xs inner := by
  refine ⟨hl, fun j p hj => ?_⟩
  obtain ⟨hj', rfl⟩ := List.getElem?_eq_some_iff.1 hj
  have hb : j * k + k ≤ xs.length * k := by rw [← Nat.succ_mul]; exact Nat.mul_le_mul_right _ hj'
  refine List.ext_getElem? fun i => ?_
  rcases Nat.lt_or_ge i k with hi | hi
  · have e1 : (j * k + i) / k = j := by rw [Nat.mul_comm, Nat.mul_add_div (by omega), Nat.div_eq_of_lt hi, Nat.add_zero]
    have e2 : (j * k + i) % k = i := by rw [Nat.mul_comm, Nat.mul_add_mod, Nat.mod_eq_of_lt hi]
    have h1 := h (j * k + i) (by omega)
    rw [e1, e2] at h1
    rw [List.getElem?_take_of_lt hi, List.getElem?_drop, h1, List.getElem?_eq_getElem (by rw [hk]; exact hi)]
    simp [hj', hk, hi]
  · rw [List.getElem?_eq_none (by rw [List.length_take]; omega), List.getElem?_eq_none (by rw [hk]; exact hi)]
end

section
variable {α : Type} [Inhabited α] {enc : α → List Value} {d : Kd α} {e : Nat} {w : World} {base : Nat} {ok : Nat → Prop} {v : Value} {xs : List α}

theorem holds_of_R (Pl : Plain d enc) (h : d.R e w base ok v xs) : (v = .slice none 0 0 ∧ xs = []) ∨
    ∃ blk cap cur, v = .slice (some ⟨blk, 0, none⟩) xs.length cap ∧ ok blk ∧ base ≤ blk ∧ blk < w.heap.size ∧ w.heap[blk]? = some (.cells cur e (0, 0)) ∧ xs.length ≤ cap ∧ cap ≤ maxLen ∧ cur.size = cap * d.sz ∧ HoldsK enc d.sz w blk 0 xs.toArray := by
  obtain ⟨h0, inner, ho, hr⟩ := h
  have hr' := hr.imp_ (R' := fun x cs => cs = enc x) (fun _ _ hp => Pl.open_ hp)
  obtain ⟨hl, ho⟩ := ho
  rcases ho with ⟨rfl, hn⟩ | ⟨blk, cap, cur, rfl, hb, hh, hc, hm, hs, ht⟩
  · exact .inl ⟨rfl, List.length_eq_zero_iff.1 hn⟩
  · refine .inr ⟨blk, cap, cur, rfl, h0 blk (by simp [Value.ownBlock]), hb, blk_lt hh, hh, hc, hm, hs, fun j hj => ?_⟩
    have hj' : j < xs.length * d.sz := by simpa using hj
    rw [get_flatK _ _ _ _ (by simpa using hj')]
    have h1 := reps_get Pl.len Pl.pos hr' j hj'
    rw [← ht, List.getElem?_take_of_lt hj', Array.getElem?_toList] at h1
    refine ⟨?_, by simp [World.frozen?, hh]⟩
    rw [Nat.zero_add, blk_cell hh j]
    exact h1

theorem R_of_sorted (Pl : Plain d enc) {blk cap : Nat} {cur : Array Value} {ys : Array α} {n : Nat} {os : Array Obj} {ok' : Nat → Prop} (hok : ok' blk) (hb : base ≤ blk) (hh : w.heap[blk]? = some (.cells cur e (0, 0))) (hc : xs.length ≤ cap) (hm : cap ≤ maxLen) (hs : cur.size = cap * d.sz) (hy : ys.size = xs.length) :
    d.R e (sortWorldK enc d.sz w blk 0 n ys os) base ok' (.slice (some ⟨blk, 0, none⟩) xs.length cap) ys.toList := by
  have hlt := blk_lt hh
  have hyl : ys.toList.length = xs.length := by simp [hy]
  have hcl : ∀ c : Array Value, c.toList.length = c.size := fun c => by simp
  have hle : xs.length * d.sz ≤ cap * d.sz := Nat.mul_le_mul_right _ hc
  have hnew : (sortWorldK enc d.sz w blk 0 n ys os).heap[blk]? = some (.cells (putCells id 0 (flatK enc d.sz ys) cur) e (0, 0)) := by
    have h1 : ((putRowK enc d.sz (Go.Sort.ahead w n) blk 0 ys).heap ++ os)[blk]? = some (.cells (putCells id 0 (flatK enc d.sz ys) cur) e (0, 0)) := by
      have hsz : (putRowK enc d.sz (Go.Sort.ahead w n) blk 0 ys).heap.size = w.heap.size := by simp [putRowK, putRow, mapBlock, Go.Sort.ahead]
      rw [Array.getElem?_append, if_pos (by rw [hsz]; exact hlt)]
      show (w.heap.modify blk (onCells (putCells id 0 (flatK enc d.sz ys))))[blk]? = _
      rw [Array.getElem?_modify, if_pos rfl, hh]
      rfl
    exact h1
  have hsize : (putCells id 0 (flatK enc d.sz ys) cur).size = cap * d.sz := by simp [putCells, hs]
  refine ⟨fun k hk => ?_, (putCells id 0 (flatK enc d.sz ys) cur).toList.take (xs.length * d.sz), ?_, ?_⟩
  · have : blk = k := by simpa [Value.ownBlock] using hk
    exact this ▸ hok
  · rw [hyl]
    refine ⟨?_, .inr ⟨blk, cap, _, rfl, hb, hnew, hc, hm, hsize, rfl⟩⟩
    rw [List.length_take, hcl, hsize]
    omega
  · refine (reps_of_get (xs := ys.toList) Pl.len ?_ fun t ht => ?_).imp_ (fun x cs hx => hx ▸ Pl.mk_ _ _ _ x)
    · rw [List.length_take, hcl, hyl, hsize]
      omega
    · rw [hyl] at ht
      have ht2 : t < ys.size * d.sz := by rw [hy]; exact ht
      have hl : t < cur.size := by omega
      rw [List.getElem?_take_of_lt ht, Array.getElem?_toList]
      simp only [putCells, Array.getElem?_mapIdx, Array.getElem?_eq_getElem hl, Option.map_some]
      rw [if_pos ⟨Nat.zero_le _, by rw [size_flatK, Nat.zero_add]; exact ht2⟩, Nat.sub_zero, get_flatK _ _ _ _ ht2]
      rfl
end

section
variable {α : Type} [Inhabited α]
/-- What the row holds behind the sort. -/
def srt (cf : α → α → Int) (l : List α) : List α := (pdq (ltOf cf) l.toArray 0 l.length (Lib.bitLen l.length) true true).toList

theorem srt_spec (cf : α → α → Int) (hO : SWO (ltOf cf)) (l : List α) : (srt cf l).Perm l ∧ (srt cf l).Pairwise (fun x y => ¬ cf y x < 0) := by
  have h := pdq_sorts (ltOf cf) hO l.toArray 0 l.toArray.size (Lib.bitLen l.toArray.size) true true (Nat.zero_le _) (Nat.le_refl _) (Or.inl rfl)
  obtain ⟨⟨hs, _, hp⟩, hq⟩ := h
  have hs' : (pdq (ltOf cf) l.toArray 0 l.length (Lib.bitLen l.length) true true).size = l.toArray.size := hs
  constructor
  · have e1 : (pdq (ltOf cf) l.toArray 0 l.length (Lib.bitLen l.length) true true).extract 0 l.toArray.size = pdq (ltOf cf) l.toArray 0 l.length (Lib.bitLen l.length) true true := by
      rw [← hs', Array.extract_size]
    have e2 : l.toArray.extract 0 l.toArray.size = l.toArray := Array.extract_size
    have h2 := hp
    rw [e2] at h2
    change ((pdq (ltOf cf) l.toArray 0 l.length (Lib.bitLen l.length) true true).extract 0 l.toArray.size).toList.Perm _ at h2
    rw [e1] at h2
    exact h2
  · rw [srt, List.pairwise_iff_getElem]
    intro i j hi hj hij
    rw [Array.length_toList] at hi hj
    have h3 := hq i j (Nat.zero_le _) hij (by rw [← hs']; exact hj)
    change ltOf cf (pdq (ltOf cf) l.toArray 0 l.length (Lib.bitLen l.length) true true)[j]! (pdq (ltOf cf) l.toArray 0 l.length (Lib.bitLen l.length) true true)[i]! = false at h3
    rw [getElem!_pos _ j hj, getElem!_pos _ i hi] at h3
    simpa [ltOf] using h3

theorem srt_len (cf : α → α → Int) (hO : SWO (ltOf cf)) (l : List α) : (srt cf l).length = l.length := (srt_spec cf hO l).1.length_eq

theorem srt_nil (cf : α → α → Int) (hO : SWO (ltOf cf)) : srt cf ([] : List α) = [] := List.length_eq_zero_iff.1 (srt_len cf hO [])
end

/-! ### nil: nothing is compared -/
section
variable {P : Program} {ρ : Ren}
set_option maxHeartbeats 2000000 in
set_option maxRecDepth 100000 in
theorem nil_insertion (L : SlLaysF0.n20 P ρ) (g : Nat) (cb : Array Value) (w : World) :
    Calls P (ρ.f 20) #[.slice none 0 0, .int .i64 0, .int .i64 0, .func (.func g) #[] cb] w fun e w' => e = .returned (.tuple #[]) ∧ ∃ n, w' = w.drewN n := by
  have mixed := L.mixed; have t0 := L.t0; have a0 := L.a0; have z0 := L.z0; have v0 := L.v0; have t3 := L.t3; have a3 := L.a3; have z3 := L.z3; have v3 := L.v3; have t4 := L.t4; have a4 := L.a4; have z4 := L.z4; have v4 := L.v4; have t22 := L.t22; have a22 := L.a22; have z22 := L.z22; have v22 := L.v22; have t25 := L.t25; have a25 := L.a25; have z25 := L.z25; have v25 := L.v25
  obtain ⟨_, _, FG⟩ := L.f20
  go_enter FG, SlBodyF.n20_ntmps ρ
  go_wp2
  refine wp_loop_rounds 1 ?_
  rw [rounds_succ]
  go_wp2
  go_end0
  exact ⟨rfl, 0, rfl⟩
set_option maxHeartbeats 2000000 in
set_option maxRecDepth 100000 in
theorem nil_pdq (L : SlLaysF0.n14 P ρ) (lim : Int) (g : Nat) (cb : Array Value) (w : World) :
    Calls P (ρ.f 14) #[.slice none 0 0, .int .i64 0, .int .i64 0, .int .i64 lim, .func (.func g) #[] cb] w fun e w' => e = .returned (.tuple #[]) ∧ ∃ n, w' = w.drewN n := by
  have mixed := L.mixed; have t0 := L.t0; have a0 := L.a0; have z0 := L.z0; have v0 := L.v0; have t3 := L.t3; have a3 := L.a3; have z3 := L.z3; have v3 := L.v3; have t4 := L.t4; have a4 := L.a4; have z4 := L.z4; have v4 := L.v4; have t5 := L.t5; have a5 := L.a5; have z5 := L.z5; have v5 := L.v5; have t9 := L.t9; have a9 := L.a9; have z9 := L.z9; have v9 := L.v9; have t22 := L.t22; have a22 := L.a22; have z22 := L.z22; have v22 := L.v22; have t25 := L.t25; have a25 := L.a25; have z25 := L.z25; have v25 := L.v25; have t39 := L.t39; have a39 := L.a39; have z39 := L.z39; have v39 := L.v39; have t45 := L.t45; have a45 := L.a45; have z45 := L.z45; have v45 := L.v45; have t46 := L.t46; have a46 := L.a46; have z46 := L.z46; have v46 := L.v46; have t50 := L.t50; have a50 := L.a50; have z50 := L.z50; have v50 := L.v50; have t53 := L.t53; have a53 := L.a53; have z53 := L.z53; have v53 := L.v53; have t55 := L.t55; have a55 := L.a55; have z55 := L.z55; have v55 := L.v55; have t66 := L.t66; have a66 := L.a66; have z66 := L.z66; have v66 := L.v66; have t70 := L.t70; have a70 := L.a70; have z70 := L.z70; have v70 := L.v70; have t76 := L.t76; have a76 := L.a76; have z76 := L.z76; have v76 := L.v76; have t77 := L.t77; have a77 := L.a77; have z77 := L.z77; have v77 := L.v77
  have e20 : ∀ args w, (callFunc (ρ.f 20) args).run P w = .ok (.enter (ρ.f 20) args) w := L.f20.enters rfl
  have hi := nil_insertion (P := P) (ρ := ρ) { L with } g cb w
  obtain ⟨_, _, FG⟩ := L.f14
  go_enter FG, SlBodyF.n14_ntmps ρ
  go_wp2
  refine wp_loop_rounds 1 ?_
  rw [rounds_succ]
  go_wp2_with (go_at_fn (ρ.f 20); refine hi.mono ?_; rintro e w' ⟨rfl, n, rfl⟩)
  (try simp only [Exit.inBlock, Exit.then]); refine bodyPost_ret (results_none rfl _ _ _) rfl ?_
  exact ⟨rfl, n, rfl⟩
set_option maxHeartbeats 2000000 in
set_option maxRecDepth 100000 in
theorem nil_sort (L : SlLaysF0.n6 P ρ) (g : Nat) (cb : Array Value) (w : World) :
    Calls P (ρ.f 6) #[.slice none 0 0, .func (.func g) #[] cb] w fun e w' => e = .returned (.tuple #[]) ∧ ∃ n, w' = w.drewN n := by
  have mixed := L.mixed; have t0 := L.t0; have a0 := L.a0; have z0 := L.z0; have v0 := L.v0; have t3 := L.t3; have a3 := L.a3; have z3 := L.z3; have v3 := L.v3; have t4 := L.t4; have a4 := L.a4; have z4 := L.z4; have v4 := L.v4; have t5 := L.t5; have a5 := L.a5; have z5 := L.z5; have v5 := L.v5; have t9 := L.t9; have a9 := L.a9; have z9 := L.z9; have v9 := L.v9; have t22 := L.t22; have a22 := L.a22; have z22 := L.z22; have v22 := L.v22; have t25 := L.t25; have a25 := L.a25; have z25 := L.z25; have v25 := L.v25; have t39 := L.t39; have a39 := L.a39; have z39 := L.z39; have v39 := L.v39; have t45 := L.t45; have a45 := L.a45; have z45 := L.z45; have v45 := L.v45; have t46 := L.t46; have a46 := L.a46; have z46 := L.z46; have v46 := L.v46; have t50 := L.t50; have a50 := L.a50; have z50 := L.z50; have v50 := L.v50; have t53 := L.t53; have a53 := L.a53; have z53 := L.z53; have v53 := L.v53; have t55 := L.t55; have a55 := L.a55; have z55 := L.z55; have v55 := L.v55; have t66 := L.t66; have a66 := L.a66; have z66 := L.z66; have v66 := L.v66; have t70 := L.t70; have a70 := L.a70; have z70 := L.z70; have v70 := L.v70; have t76 := L.t76; have a76 := L.a76; have z76 := L.z76; have v76 := L.v76; have t77 := L.t77; have a77 := L.a77; have z77 := L.z77; have v77 := L.v77
  have e14 : ∀ args w, (callFunc (ρ.f 14) args).run P w = .ok (.enter (ρ.f 14) args) w := L.f14.enters rfl
  have e15 : ∀ args w, (callFunc (ρ.f 15) args).run P w = .ok (.enter (ρ.f 15) args) w := enters_of L.f15 (by kernel_rfl) rfl
  have hp := fun lim => nil_pdq (P := P) (ρ := ρ) { L with } lim g cb w
  have hl : Calls P (ρ.f 15) #[.int .u64 0] w fun e w' => e = .returned (.int .i64 (Lib.bitLen 0 : Nat)) ∧ w' = w := Any.bits_Len (SlLaysF0.n15.bits (P := P) (ρ := ρ) { L with }) 0 w (by omega) (by omega)
  generalize (Lib.bitLen 0 : Nat) = bl at hl
  obtain ⟨_, _, FG⟩ := L.f6
  go_enter FG, SlBodyF.n6_ntmps ρ
  go_wp2_with (first | (go_at_fn (ρ.f 15); refine hl.mono ?_; rintro e w' ⟨rfl, rfl⟩) | (go_at_fn (ρ.f 14); refine (hp _).mono ?_; rintro e w' ⟨rfl, n, rfl⟩))
  go_end0
  exact ⟨rfl, n, rfl⟩
end

variable {P : Program} {ρ : Ren} {α : Type} [Inhabited α]
/-- The sort, at a row of the call's own. -/
theorem sort_calls (L : SlLaysF0.n6 P ρ) {d : Kd α} {enc : α → List Value} (Pl : Plain d enc) (aE : ∀ w, (isAgg (ρ.t 24)).run P w = .ok true w) (zE : ∀ w, (Go.sizeOf (ρ.t 24)).run P w = .ok d.sz w) (cf : α → α → Int) (hO : SWO (ltOf cf)) (g : Nat)
    (eg : ∀ args w, (callFunc g args).run P w = .ok (.enter g args) w)
    (hcmp : ∀ (W : World) (x y : α), Calls P g #[.agg (enc x).toArray, .agg (enc y).toArray] W fun e w' => e = .returned (.int .i64 (cf x y)) ∧ ∃ q os', w' = grow (W.drewN q) os')
    (P0_ : Nat → Prop) (u : Value) (l : List α) (e : Nat) (w0 w : World) (hB : Below w0.heap.size w0 w) (ho0 : d.R e w w0.heap.size P0_ u l) (hsz : l.length < 4611686018427387904) :
    Calls P (ρ.f 6) #[u, .func (.func g) #[] #[]] w fun e_ w' => e_ = .returned (.tuple #[]) ∧ d.R e w' w0.heap.size (fun k_ => (P0_ k_ ∨ w.heap.size ≤ k_)) u (srt cf l) ∧ Below w0.heap.size w0 w' ∧ Kept w w' (fun k_ => P0_ k_) := by
  rcases holds_of_R Pl ho0 with ⟨rfl, rfl⟩ | ⟨blk, cap, cur, rfl, hok, hb, hlt, hh, hc, hm, hs, hH⟩
  · refine (nil_sort L g #[] w).mono ?_
    rintro e_ w' ⟨rfl, n, rfl⟩
    rw [srt_nil cf hO]
    exact ⟨rfl, Kd.R_nil _ _ _ _ _, pw_below_drewN hB n, Kept.of_below (pw_below_drewN (Below.refl _ _) n) _⟩
  · have h := AnyQ.slices_SortFunc_eq L d.sz aE zE enc Pl.len Pl.one cf hO g #[] blk 0 cap l.toArray w eg (fun m os dk _ x y => by simpa using hcmp _ x y) hH hlt (by simpa using hsz)
    refine h.mono ?_
    rintro e_ w' ⟨rfl, n, os, rfl⟩
    have hlen : (pdq (ltOf cf) l.toArray 0 l.toArray.size (Lib.bitLen l.toArray.size) true true).size = l.length := by
      have := srt_len cf hO l
      rw [srt, Array.length_toList] at this
      exact this
    have hkeep : ∀ i, i < w.heap.size → i ≠ blk → (sortWorldK enc d.sz w blk 0 n (pdq (ltOf cf) l.toArray 0 l.toArray.size (Lib.bitLen l.toArray.size) true true) os).heap[i]? = w.heap[i]? := by
      intro i hi hne
      generalize pdq (ltOf cf) l.toArray 0 l.toArray.size (Lib.bitLen l.toArray.size) true true = ys
      have hsz : (putRowK enc d.sz (Go.Sort.ahead w n) blk 0 ys).heap.size = w.heap.size := by simp [putRowK, putRow, mapBlock, Go.Sort.ahead]
      show ((putRowK enc d.sz (Go.Sort.ahead w n) blk 0 ys).heap ++ os)[i]? = _
      rw [Array.getElem?_append, if_pos (by rw [hsz]; exact hi)]
      show (w.heap.modify blk (onCells (putCells id 0 (flatK enc d.sz ys))))[i]? = _
      rw [Array.getElem?_modify, if_neg (Ne.symm hne)]
    have hsz2 : w.heap.size ≤ (sortWorldK enc d.sz w blk 0 n (pdq (ltOf cf) l.toArray 0 l.toArray.size (Lib.bitLen l.toArray.size) true true) os).heap.size := size_sortWorldK_c _ _ _ _ _ _ _ _
    refine ⟨rfl, R_of_sorted Pl (xs := l) (Or.inl hok) hb hh hc hm hs hlen, ⟨hB.os, hB.tape, hB.output, Nat.le_trans hB.size hsz2, fun i hi => ?_⟩, hsz2, fun i hi hn => hkeep i hi (fun he => hn (he ▸ hok))⟩
    exact (hkeep i (Nat.lt_of_lt_of_le hi hB.size) (fun he => by omega)).trans (hB.block i hi)

end Go.Proofs.Ytgohhekihfilbaa.Sr
