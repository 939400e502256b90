/- Maps that a call makes for itself, told as lists of keys and values (the newest first), and the steps of the walk at a look-up and at a store. -/
import Derived.Test.YtgohhekihfilbaaWMore
import Derived.Maps.Own
import Derived.Maps.OwnOps
import Derived.Maps.Views
import Derived.DeepKeys5
namespace Go.Proofs.Ytgohhekihfilbaa.Mp
open Go.Maps (Keyed)
open Go.RowKit
open Go.Proofs.YtgohhekihfilbaaW.PrintWords

/-- What the walk is not to look into: a whole number of 64 bits. -/
def inI64 (k : Int) : Bool := decide (-9223372036854775808 ≤ k ∧ k ≤ 9223372036854775807)
theorem inI64_wf {k : Int} (h : inI64 k = true) : (Lit.int .i64 k).wf = true := by
  have := of_decide_eq_true h
  simp [Lit.wf, IntKind.min, IntKind.max, IntKind.signed, IntKind.bits]
  omega
theorem inI64_of {k : Int} (h0 : -9223372036854775808 ≤ k) (h1 : k ≤ 9223372036854775807) : inI64 k = true := decide_eq_true ⟨h0, h1⟩

/-- An element is told as itself. -/
def raw (v : Value) : Option (DataW Value × List MemPlace) := some (.held v, [])

section
variable {α β : Type} [DecidableEq α]
/-- Block b of w is a map that the list L tells: its keys by enc, its values by venc. -/
def OM (P : Program) (K : TypeId) (enc : α → Value) (venc : β → Value) (w : World) (b : Nat) (L : List (α × β)) : Prop :=
  ∃ n D, w.ownsMap P K raw b n D ∧ Maps.IsMap D ∧ n ≤ L.length ∧ ∀ a kl, keyOf P K (enc a) = some kl → ∀ z : DataW Value, D.atKey kl z = (L.lookup a).elim z fun v => .held (venc v)

variable {P : Program} {K : TypeId} {enc : α → Value} {venc : β → Value} {w : World} {b : Nat} {L : List (α × β)}
theorem OM.lt (h : OM P K enc venc w b L) : b < w.heap.size := by
  obtain ⟨n, D, ho, _⟩ := h
  exact ho.lt
theorem OM_made (P : Program) (K : TypeId) (enc : α → Value) (venc : β → Value) (w : World) : OM P K enc venc (w.alloc (.map #[] 0)) w.heap.size [] := by
  refine ⟨0, .map [], World.ownsMap_made w P K raw, ⟨[], rfl⟩, Nat.le_refl _, fun a kl _ z => rfl⟩
theorem OM.same {w' : World} (h : OM P K enc venc w b L) (hb : w'.heap[b]? = w.heap[b]?) : OM P K enc venc w' b L := by
  obtain ⟨n, D, ⟨es, clock, h1, h2⟩, r⟩ := h
  exact ⟨n, D, ⟨es, clock, hb.trans h1, h2⟩, r⟩
theorem OM_alloc (h : OM P K enc venc w b L) (o : Obj) : OM P K enc venc (w.alloc o) b L := by
  obtain ⟨n, D, ho, r⟩ := h
  exact ⟨n, D, ho.alloc o, r⟩
theorem OM_drewN (h : OM P K enc venc w b L) (n : Nat) : OM P K enc venc (w.drewN n) b L := h
theorem OM_drew (h : OM P K enc venc w b L) : OM P K enc venc w.drew b L := h
theorem OM_grown {w' : World} {row : Option Nat} (h : OM P K enc venc w b L) (hg : w.grownBy w' row) (hne : some b ≠ row) : OM P K enc venc w' b L := by
  obtain ⟨n, D, ho, r⟩ := h
  exact ⟨n, D, ho.kept hg hne, r⟩
theorem OM_below {w' : World} (h : OM P K enc venc w b L) (hb : Below w.heap.size w w') : OM P K enc venc w' b L := OM_grown h (grown_of_below hb none) (by simp)
theorem OM_far {p : Addr} (h : OM P K enc venc w b L) (hne : b ≠ p.block) (u : Value) : OM P K enc venc (w.setCell p u) b L := h.same (Below.heap_setCell w p u b hne)

/-- A look-up without ok. -/
theorem OM.look {T E : TypeId} (h : OM P K enc venc w b L) (Kd : Keyed P K) (ht : P.underlying T = some (.map K E)) {z : Value} (hz : (zeroValue E).run P w = .ok z w) {a : α} {kl : Lit} (hk : keyOf P K (enc a) = some kl) :
    (Instr.lookup T (.map (some b)) (enc a) false).run P w = .ok ((L.lookup a).elim z venc) w := by
  obtain ⟨n, D, ho, _, _, hD⟩ := h
  obtain ⟨v, ps, hrun, hv⟩ := ho.lookup Kd ht hz (zd := .held z) (zp := []) rfl hk
  rw [hrun]
  have h1 := hD a kl hk (.held z)
  rw [h1] at hv
  have h2 : v = ((L.lookup a).elim z venc) := by
    unfold raw at hv
    cases hl : L.lookup a with
    | none => rw [hl] at hv; simp only [Option.elim, Option.some.injEq, Prod.mk.injEq, DataW.held.injEq] at hv; exact hv.1
    | some u => rw [hl] at hv; simp only [Option.elim, Option.some.injEq, Prod.mk.injEq, DataW.held.injEq] at hv; exact hv.1
  rw [h2]
/-- A look-up with ok. -/
theorem OM.look_ok {T E : TypeId} (h : OM P K enc venc w b L) (Kd : Keyed P K) (ht : P.underlying T = some (.map K E)) {z : Value} (hz : (zeroValue E).run P w = .ok z w) {a : α} {kl : Lit} (hk : keyOf P K (enc a) = some kl) :
    (Instr.lookup T (.map (some b)) (enc a) true).run P w = .ok ((L.lookup a).elim (.tuple #[z, .bool false]) fun v => .tuple #[venc v, .bool true]) w := by
  obtain ⟨n, D, ⟨es, clock, hb, F, _, rfl⟩, _, _, hD⟩ := h
  rcases Maps.fit_look true Kd ht hz hb F hk with ⟨hrun, _, hat⟩ | ⟨e0, y, _, _, hrun, hRv, hat, _⟩
  · have h1 := (hD a kl hk (.held (.bool true))).symm.trans (hat _)
    have h2 := (hD a kl hk (.held (.bool false))).symm.trans (hat _)
    rw [hrun]
    cases hl : L.lookup a with
    | none => simp
    | some u =>
      rw [hl] at h1 h2
      simp only [Option.elim, DataW.held.injEq] at h1 h2
      rw [h1] at h2
      simp at h2
  · rw [hrun]
    have h1 := (hD a kl hk .nil).symm.trans (hat _)
    have hy : y = (.held e0.val, []) := (Option.some.inj hRv).symm
    cases hl : L.lookup a with
    | none => rw [hl, hy] at h1; simp at h1
    | some u =>
      rw [hl, hy] at h1
      simp only [Option.elim, DataW.held.injEq] at h1
      simp [h1]
/-- A store. -/
theorem OM.store {T E : TypeId} (h : OM P K enc venc w b L) (Kd : Keyed P K) (ht : P.underlying T = some (.map K E)) (hn : L.length < 9223372036854775807) (a : α) (v : β) {kl : Lit} (hk : keyOf P K (enc a) = some kl) (hinj : ∀ x y, enc x = enc y → x = y) :
    ∃ w', (Instr.mapUpdate T (.map (some b)) (enc a) (venc v)).run P w = .ok () w' ∧ OM P K enc venc w' b ((a, v) :: L) ∧ w.grownBy w' (some b) := by
  obtain ⟨n, D, ho, hm, hl, hD⟩ := h
  obtain ⟨w', hrun, ho', hg⟩ := ho.update Kd ht (by unfold maxLen; omega) (val := venc v) (d := .held (venc v)) (ps := []) hk rfl
  refine ⟨w', hrun, ⟨n + 1, D.put kl (.held (venc v)), ho', ?_, by simp; omega, ?_⟩, hg⟩
  · obtain ⟨es, rfl⟩ := hm
    exact ⟨_, rfl⟩
  · intro a' kl' hk' z
    by_cases e : a' = a
    · subst e
      rw [hk] at hk'
      obtain rfl := Option.some.inj hk'
      rw [Maps.atKey_put_same hm (Kd.key hk)]
      simp [List.lookup]
    · have hne : kl' ≠ kl := fun e2 => e (hinj _ _ (Kd.inj hk' (e2 ▸ hk)))
      rw [Maps.atKey_put_other hne, hD a' kl' hk' z]
      have : (a' == a) = false := by simpa using e
      simp [List.lookup, this]
end

/-! ### Sets: maps from keys to true -/
/-- Is the key in the list? (The walk does not look into it.) -/
def has {α : Type} [DecidableEq α] (L : List α) (a : α) : Bool := decide (a ∈ L)
section
variable {α : Type} [DecidableEq α]
/-- Block b of w is a set that has the keys in L. -/
def OSet (P : Program) (K : TypeId) (enc : α → Value) (w : World) (b : Nat) (L : List α) : Prop := OM P K enc Value.bool w b (L.map fun a => (a, true))
theorem lookup_true (L : List α) (a : α) : (L.map fun a => (a, true)).lookup a = if a ∈ L then some true else none := by
  induction L with
  | nil => rfl
  | cons x L ih =>
    simp only [List.map_cons, List.lookup, List.mem_cons]
    by_cases e : a = x
    · subst e; simp
    · have : (a == x) = false := by simpa using e
      rw [this, ih]
      simp [e]
variable {P : Program} {K : TypeId} {enc : α → Value} {w : World} {b : Nat} {L : List α}
theorem OSet_made (P : Program) (K : TypeId) (enc : α → Value) (w : World) : OSet P K enc (w.alloc (.map #[] 0)) w.heap.size [] := OM_made P K enc Value.bool w
theorem OSet_lt (h : OSet P K enc w b L) : b < w.heap.size := OM.lt h
theorem OSet_alloc (h : OSet P K enc w b L) (o : Obj) : OSet P K enc (w.alloc o) b L := OM_alloc h o
theorem OSet_drewN (h : OSet P K enc w b L) (n : Nat) : OSet P K enc (w.drewN n) b L := h
theorem OSet_drew (h : OSet P K enc w b L) : OSet P K enc w.drew b L := h
theorem OSet_below {w' : World} (h : OSet P K enc w b L) (hb : Below w.heap.size w w') : OSet P K enc w' b L := OM_below h hb
theorem OSet_far {p : Addr} (h : OSet P K enc w b L) (hne : b ≠ p.block) (u : Value) : OSet P K enc (w.setCell p u) b L := OM_far h hne u
theorem OSet_grown {w' : World} {row : Option Nat} (h : OSet P K enc w b L) (hg : w.grownBy w' row) (hne : some b ≠ row) : OSet P K enc w' b L := OM_grown h hg hne
section
variable {ops : Array Oper} {rest : List Oper} {o : Oper} {a : Act} {Q : Exit → Act → World → Prop}
theorem look_set {T E : TypeId} (hg : o.guard = none) (m x : Operand) (hop : o.op = Op.lookup T m x false) (Kd : Keyed P K) (ht : P.underlying T = some (.map K E)) (hz : ∀ w, (zeroValue E).run P w = .ok (.bool false) w)
    (hm : a.eval m = .map (some b)) (ho : OSet P K enc w b L) (key : α) {kl : Lit} (hx : a.eval x = enc key) (hk : keyOf P K (enc key) = some kl)
    (h : wpList P ops Q rest (a.put o.dst (.bool (has L key))) w) : wpList P ops Q (o :: rest) a w := by
  refine wpList_plain hg fun K' hK' => ?_
  have hrun := OM.look ho Kd ht (hz w) hk
  have e : ((L.map fun a => (a, true)).lookup key).elim (.bool false) Value.bool = .bool (has L key) := by
    rw [lookup_true]
    unfold has
    by_cases hin : key ∈ L <;> simp [hin]
  rw [e] at hrun
  unfold Oper.wp
  simp [execOp, hop, hm, hx, hrun, Result.andThen]
  exact hK' _ _ h
theorem store_set {T E : TypeId} (hg : o.guard = none) (m x v : Operand) (hop : o.op = Op.mapUpdate T m x v) (Kd : Keyed P K) (ht : P.underlying T = some (.map K E))
    (hm : a.eval m = .map (some b)) (ho : OSet P K enc w b L) (hn : L.length < 9223372036854775807) (key : α) {kl : Lit} (hx : a.eval x = enc key) (hv : a.eval v = .bool true) (hk : keyOf P K (enc key) = some kl) (hinj : ∀ x y, enc x = enc y → x = y)
    (h : ∀ w1, OSet P K enc w1 b (key :: L) → w.grownBy w1 (some b) → wpList P ops Q rest (a.put o.dst undef) w1) : wpList P ops Q (o :: rest) a w := by
  refine wpList_plain hg fun K' hK' => ?_
  obtain ⟨w', hrun, r1, r2⟩ := OM.store ho Kd ht (by simpa using hn) key true hk hinj
  unfold Oper.wp
  simp [execOp, hop, hm, hx, hv, hrun, Result.andThen]
  exact hK' _ _ (h w' r1 r2)
end
end

/-! ### A map that the call made, beside 'Below': one fact of the world -/
/-- A set's list, as a map's. -/
def st {α : Type} (L : List α) : List (α × Bool) := L.map fun a => (a, true)
/-- A key's value in the list (the newest). -/
def look {α β : Type} [DecidableEq α] (a : α) (L : List (α × β)) : Option β := L.lookup a
theorem look_cons {α β : Type} [DecidableEq α] (q k : α) (v : β) (m : List (α × β)) : look q ((k, v) :: m) = if q = k then some v else look q m := by
  unfold look
  rw [List.lookup]
  by_cases h : q = k
  · simp [h]
  · have : (q == k) = false := by simpa using h
    rw [this, if_neg h]
/-- Old memory is as it was, and block mb is the map that L tells. -/
structure BM {α β : Type} [DecidableEq α] (P : Program) (K : TypeId) (enc : α → Value) (venc : β → Value) (mb : Nat) (L : List (α × β)) (w W : World) : Prop where
  b : Below w.heap.size w W
  m : OM P K enc venc W mb L
  le : w.heap.size ≤ mb
section
variable {α β : Type} [DecidableEq α] {P : Program} {K : TypeId} {enc : α → Value} {venc : β → Value} {mb : Nat} {L : List (α × β)} {w W w2 : World}
theorem bm_size (h : BM P K enc venc mb L w W) : w.heap.size ≤ W.heap.size := h.b.size
theorem bm_lt (h : BM P K enc venc mb L w W) : mb < W.heap.size := h.m.lt
theorem bm_alloc (h : BM P K enc venc mb L w W) (o : Obj) : BM P K enc venc mb L w (W.alloc o) := ⟨below_alloc h.b o, OM_alloc h.m o, h.le⟩
theorem bm_drewN (h : BM P K enc venc mb L w W) (n : Nat) : BM P K enc venc mb L w (W.drewN n) := ⟨pw_below_drewN h.b n, h.m, h.le⟩
theorem bm_drew1 (h : BM P K enc venc mb L w W) : BM P K enc venc mb L w W.drew := ⟨h.b.drew, h.m, h.le⟩
theorem bm_set {g j : Nat} {v : Value} (h : BM P K enc venc mb L w W) (hg : w.heap.size ≤ g) (hn : mb ≠ g) : BM P K enc venc mb L w (W.setCell ⟨g, j, none⟩ v) := ⟨below_set h.b hg, OM_far h.m hn v, h.le⟩
theorem bm_step (h : BM P K enc venc mb L w W) (k : Below W.heap.size W w2) : BM P K enc venc mb L w w2 := ⟨below_step h.b k, OM_below h.m k, h.le⟩
theorem bm_grown {row : Option Nat} (h : BM P K enc venc mb L w W) (hb : Below w.heap.size w w2) (hg : W.grownBy w2 row) (hn : some mb ≠ row) : BM P K enc venc mb L w w2 := ⟨hb, OM_grown h.m hg hn, h.le⟩
theorem bm_own_ne {γ : Type} {d : Kd γ} {e base : Nat} {ok : Nat → Prop} {v : Value} {xs : List γ} (h : BM P K enc venc mb L w W) (ho : d.R e W base ok v xs) : some mb ≠ v.ownBlock := fun he => by
  obtain ⟨n, D, ⟨es, clock, h1, _⟩, _⟩ := h.m
  obtain ⟨cells, h2⟩ := own_typed ho.2.choose_spec.1 mb he.symm
  rw [h1] at h2
  cases h2
theorem bm_cell {a : Addr} {v : Value} (h : BM P K enc venc mb L w W) (hc : w.cell? a = some v) : W.cell? a = some v := (h.b.cell (World.block_lt_of_cell? w a hc)).trans hc
section
variable {ops : Array Oper} {rest : List Oper} {o : Oper} {a : Act} {Q : Exit → Act → World → Prop}
theorem gate_make {T : TypeId} (_h : o.op = .makeMap T none) (h : wpList P ops Q (o :: rest) a W) : wpList P ops Q (o :: rest) a W := h
theorem gate_look {T : TypeId} {m x : Operand} {b : Bool} (_h : o.op = .lookup T m x b) (h : wpList P ops Q (o :: rest) a W) : wpList P ops Q (o :: rest) a W := h
theorem gate_put {T : TypeId} {m x v : Operand} (_h : o.op = .mapUpdate T m x v) (h : wpList P ops Q (o :: rest) a W) : wpList P ops Q (o :: rest) a W := h
theorem make_ev {T : TypeId} (enc : α → Value) (venc : β → Value) (hg : o.guard = none) (hop : o.op = .makeMap T none) (hB : Below w.heap.size w W)
    (h : ∀ mb w1, mb = W.heap.size → Below W.heap.size W w1 → BM P K enc venc mb [] w w1 → wpList P ops Q rest (a.put o.dst (.map (some mb))) w1) : wpList P ops Q (o :: rest) a W := by
  refine wpList_plain hg fun K' hK' => ?_
  unfold Oper.wp
  simp [execOp, hop, run_makeMap, Result.andThen]
  exact hK' _ _ (h _ _ rfl (below_alloc (Below.refl _ _) _) ⟨below_alloc hB _, OM_made P K enc venc W, hB.size⟩)
theorem look_ok_some {T E : TypeId} (hg : o.guard = none) (m x : Operand) (hop : o.op = Op.lookup T m x true) (Kd : Keyed P K) (ht : P.underlying T = some (.map K E)) {z : Value} (hz : ∀ w, (zeroValue E).run P w = .ok z w)
    (hm : a.eval m = .map (some mb)) (ho : BM P K enc venc mb L w W) (key : α) {kl : Lit} (hx : a.eval x = enc key) (hk : keyOf P K (enc key) = some kl) (hs : (look key L).isSome = true) (d : β)
    (h : wpList P ops Q rest (a.put o.dst (.tuple #[venc ((look key L).getD d), .bool true])) W) : wpList P ops Q (o :: rest) a W := by
  refine wpList_plain hg fun K' hK' => ?_
  have hrun := OM.look_ok ho.m Kd ht (hz W) hk
  unfold look at hs h
  obtain ⟨u, hu⟩ := Option.isSome_iff_exists.1 hs
  rw [hu] at hrun h
  unfold Oper.wp
  simp [execOp, hop, hm, hx, hrun, Result.andThen]
  exact hK' _ _ h
theorem look_ok_none {T E : TypeId} (hg : o.guard = none) (m x : Operand) (hop : o.op = Op.lookup T m x true) (Kd : Keyed P K) (ht : P.underlying T = some (.map K E)) {z : Value} (hz : ∀ w, (zeroValue E).run P w = .ok z w)
    (hm : a.eval m = .map (some mb)) (ho : BM P K enc venc mb L w W) (key : α) {kl : Lit} (hx : a.eval x = enc key) (hk : keyOf P K (enc key) = some kl) (hs : (look key L).isSome = false)
    (h : wpList P ops Q rest (a.put o.dst (.tuple #[z, .bool false])) W) : wpList P ops Q (o :: rest) a W := by
  refine wpList_plain hg fun K' hK' => ?_
  have hrun := OM.look_ok ho.m Kd ht (hz W) hk
  unfold look at hs
  rw [Option.isSome_eq_false_iff, Option.isNone_iff_eq_none] at hs
  rw [hs] at hrun
  unfold Oper.wp
  simp [execOp, hop, hm, hx, hrun, Result.andThen]
  exact hK' _ _ h
theorem look_plain {T E : TypeId} (hg : o.guard = none) (m x : Operand) (hop : o.op = Op.lookup T m x false) (Kd : Keyed P K) (ht : P.underlying T = some (.map K E)) {z : Value} (hz : ∀ w, (zeroValue E).run P w = .ok z w)
    (hm : a.eval m = .map (some mb)) (ho : BM P K enc venc mb L w W) (key : α) {kl : Lit} (hx : a.eval x = enc key) (hk : keyOf P K (enc key) = some kl) (y : Value) (hy : ((look key L).elim z venc) = y)
    (h : wpList P ops Q rest (a.put o.dst y) W) : wpList P ops Q (o :: rest) a W := by
  refine wpList_plain hg fun K' hK' => ?_
  have hrun := OM.look ho.m Kd ht (hz W) hk
  unfold look at hy
  rw [hy] at hrun
  unfold Oper.wp
  simp [execOp, hop, hm, hx, hrun, Result.andThen]
  exact hK' _ _ h
theorem store_ev {T E : TypeId} (hg : o.guard = none) (m x v : Operand) (hop : o.op = Op.mapUpdate T m x v) (Kd : Keyed P K) (ht : P.underlying T = some (.map K E))
    (hm : a.eval m = .map (some mb)) (ho : BM P K enc venc mb L w W) (hn : L.length < 9223372036854775807) (key : α) (val : β) {kl : Lit} (hx : a.eval x = enc key) (hv : a.eval v = venc val) (hk : keyOf P K (enc key) = some kl) (hinj : ∀ x y, enc x = enc y → x = y)
    (h : ∀ w1, BM P K enc venc mb ((key, val) :: L) w w1 → W.grownBy w1 (some mb) → wpList P ops Q rest (a.put o.dst undef) w1) : wpList P ops Q (o :: rest) a W := by
  refine wpList_plain hg fun K' hK' => ?_
  obtain ⟨w', hrun, r1, r2⟩ := OM.store ho.m Kd ht hn key val hk hinj
  unfold Oper.wp
  simp [execOp, hop, hm, hx, hv, hrun, Result.andThen]
  exact hK' _ _ (h w' ⟨pw_below_grown ho.b (some mb) ho.b.size r2 (by rintro k e; cases e; exact ho.le), r1, ho.le⟩ r2)
end
section
variable {ops : Array Oper} {o : Oper} {a : Act} {Q : Exit → Act → World → Prop} {Kc : Act → World → Prop}
theorem store_step {T E : TypeId} (hw : Region.wanted o (yielded ops a.tmps) = true) (m x v : Operand) (hop : o.op = Op.mapUpdate T m x v) (Kd : Keyed P K) (ht : P.underlying T = some (.map K E))
    (hm : a.eval m = .map (some mb)) (ho : BM P K enc venc mb L w W) (hn : L.length < 9223372036854775807) (key : α) (val : β) {kl : Lit} (hx : a.eval x = enc key) (hv : a.eval v = venc val) (hk : keyOf P K (enc key) = some kl) (hinj : ∀ x y, enc x = enc y → x = y)
    (h : ∀ w1, BM P K enc venc mb ((key, val) :: L) w w1 → W.grownBy w1 (some mb) → Kc (a.put o.dst undef) w1) : if Region.wanted o (yielded ops a.tmps) = true then Oper.wp P o a W Kc Q else Kc (a.put o.dst undef) W := by
  rw [if_pos hw]
  obtain ⟨w', hrun, r1, r2⟩ := OM.store ho.m Kd ht hn key val hk hinj
  unfold Oper.wp
  simp [execOp, hop, hm, hx, hv, hrun, Result.andThen]
  exact h w' ⟨pw_below_grown ho.b (some mb) ho.b.size r2 (by rintro k e; cases e; exact ho.le), r1, ho.le⟩ r2
end
end
theorem st_elim {α : Type} [DecidableEq α] (L : List α) (a : α) : (look a (st L)).elim (.bool false) Value.bool = .bool (has L a) := by
  unfold look st
  rw [lookup_true]
  unfold has
  by_cases hin : a ∈ L <;> simp [hin]

/-- Keys that are whole numbers. -/
def ik (a : Int) : Value := .int .i64 a
theorem ik_inj (x y : Int) (h : ik x = ik y) : x = y := by unfold ik at h; injection h
theorem ik_key {P : Program} {K : TypeId} (hK : P.underlying K = some (.int .i64)) {a : Int} (h : inI64 a = true) : keyOf P K (ik a) = some (.int .i64 a) := Maps.keyOf_int_mk hK (inI64_wf h)
/-- Keys that are pairs of whole numbers. -/
def pk (a : Int × Int) : Value := .agg #[.int .i64 a.1, .int .i64 a.2]
theorem pk_inj (x y : Int × Int) (h : pk x = pk y) : x = y := by
  unfold pk at h
  injection h with h
  simp at h
  exact Prod.ext h.1 h.2
theorem pk_key {P : Program} {K : TypeId} {f0 f1 : Field} (hu : P.underlying K = some (.struct #[f0, f1])) (h0 : P.underlying f0.type = some (.int .i64)) (h1 : P.underlying f1.type = some (.int .i64)) (hn : (f0.name != "_" && f1.name != "_") = true)
    (o0 : f0.offset = 0) (o1 : f1.offset = 1) (c : P.cellsOf K = 2) (c0 : P.cellsOf f0.type = 1) (c1 : P.cellsOf f1.type = 1) (hkt : P.keyType K = true) (hsz : 0 < P.types.size) {a b : Int} (wa : inI64 a = true) (wb : inI64 b = true) :
    keyOf P K (pk (a, b)) = some (.string (keyBytes [.int .i64 a, .int .i64 b])) := by
  obtain ⟨m, hm⟩ : ∃ m, P.types.size = m + 1 := ⟨P.types.size - 1, by omega⟩
  have wa' := inI64_wf wa
  have wb' := inI64_wf wb
  simp only [Bool.and_eq_true] at hn
  unfold keyOf pk
  simp only [hu]
  rw [if_pos (by simp [hkt, Value.formed, hu, c]), hm]
  unfold Program.keyLits
  simp only [hu, Value.cells]
  rw [if_pos (by simp [c, hn.1, hn.2])]
  simp [List.mapM_cons, List.mapM_nil, Program.keyLits, h0, h1, o0, o1, c0, c1, wa', wb']
theorem pair_keyed {P : Program} {K : TypeId} (hl : laidOutB P = true) (hsmall : P.types.size + 2 ≤ 10000) (hrow : K < P.types.size) (hk : P.keyType K = true)
    (hwide : (match P.underlying K with | some (.array _ _) | some (.struct _) => true | _ => false) = true) : Keyed P K := Keyed.of_law (deep_law_gate hl hsmall hrow hk hwide)
end Go.Proofs.Ytgohhekihfilbaa.Mp
