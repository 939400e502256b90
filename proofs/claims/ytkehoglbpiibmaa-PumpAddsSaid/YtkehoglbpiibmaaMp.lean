/- Maps that a call makes for itself, told as lists of keys and values (the newest first), and the steps of the walk at a look-up and at a store. -/
import Derived.Test.YtkehoglbpiibmaaWMore
import Derived.Maps.Own
import Derived.Maps.OwnOps
import Derived.Maps.Views
import Derived.DeepKeys5
namespace Go.Proofs.Ytkehoglbpiibmaa.Mp
open Go.Maps (Keyed)
open Go.RowKit
open Go.Proofs.YtkehoglbpiibmaaW.PrintWords

/-- What the walk is not to look into: a whole number of 64 bits. -/
def inI64 (k : Int) : Bool := decide (-9223372036854775808 ≤ k ∧ k ≤ 9223372036854775807)
theorem inI64_wf {k : Int} (h : inI64 k = true) : (Lit.int .i64 k).wf = true := by
  have := of_decide_eq_true h
  simp [Lit.wf, IntKind.min, IntKind.max, IntKind.signed, IntKind.bits]
  omega
theorem inI64_of {k : Int} (h0 : -9223372036854775808 ≤ k) (h1 : k ≤ 9223372036854775807) : inI64 k = true := decide_eq_true ⟨h0, h1⟩

/-- An element is told as itself. -/
def raw (v : Value) : Option (DataW Value × List MemPlace) := some (.held v, [])

section
variable {α β : Type} [DecidableEq α]
/-- Block b of w is a map that the list L tells: its keys by enc, its values by venc. -/
def OM (P : Program) (K : TypeId) (enc : α → Value) (venc : β → Value) (w : World) (b : Nat) (L : List (α × β)) : Prop :=
  ∃ n D, w.ownsMap P K raw b n D ∧ Maps.IsMap D ∧ n ≤ L.length ∧ ∀ a kl, keyOf P K (enc a) = some kl → ∀ z : DataW Value, D.atKey kl z = (L.lookup a).elim z fun v => .held (venc v)

variable {P : Program} {K : TypeId} {enc : α → Value} {venc : β → Value} {w : World} {b : Nat} {L : List (α × β)}
theorem OM.lt (h : OM P K enc venc w b L) : b < w.heap.size := by
  obtain ⟨n, D, ho, _⟩ := h
  exact ho.lt
theorem OM_made (P : Program) (K : TypeId) (enc : α → Value) (venc : β → Value) (w : World) : OM P K enc venc (w.alloc (.map #[] 0)) w.heap.size [] := by
  refine ⟨0, .map [], World.ownsMap_made w P K raw, ⟨[], rfl⟩, Nat.le_refl _, fun a kl _ z => rfl⟩
theorem OM.same {w' : World} (h : OM P K enc venc w b L) (hb : w'.heap[b]? = w.heap[b]?) : OM P K enc venc w' b L := by
  obtain ⟨n, D, ⟨es, clock, h1, h2⟩, r⟩ := h
  exact ⟨n, D, ⟨es, clock, hb.trans h1, h2⟩, r⟩
theorem OM_alloc (h : OM P K enc venc w b L) (o : Obj) : OM P K enc venc (w.alloc o) b L := by
  obtain ⟨n, D, ho, r⟩ := h
  exact ⟨n, D, ho.alloc o, r⟩
theorem OM_drewN (h : OM P K enc venc w b L) (n : Nat) : OM P K enc venc (w.drewN n) b L := h
theorem OM_drew (h : OM P K enc venc w b L) : OM P K enc venc w.drew b L := h
theorem OM_grown {w' : World} {row : Option Nat} (h : OM P K enc venc w b L) (hg : w.grownBy w' row) (hne : some b ≠ row) : OM P K enc venc w' b L := by
  obtain ⟨n, D, ho, r⟩ := h
  exact ⟨n, D, ho.kept hg hne, r⟩
theorem OM_below {w' : World} (h : OM P K enc venc w b L) (hb : Below w.heap.size w w') : OM P K enc venc w' b L := OM_grown h (grown_of_below hb none) (by simp)
theorem OM_far {p : Addr} (h : OM P K enc venc w b L) (hne : b ≠ p.block) (u : Value) : OM P K enc venc (w.setCell p u) b L := h.same (Below.heap_setCell w p u b hne)

/-- A look-up without ok. -/
theorem OM.look {T E : TypeId} (h : OM P K enc venc w b L) (Kd : Keyed P K) (ht : P.underlying T = some (.map K E)) {z : Value} (hz : (zeroValue E).run P w = .ok z w) {a : α} {kl : Lit} (hk : keyOf P K (enc a) = some kl) :
    (Instr.lookup T (.map (some b)) (enc a) false).run P w = .ok ((L.lookup a).elim z venc) w := by
  obtain ⟨n, D, ho, _, _, hD⟩ := h
  obtain ⟨v, ps, hrun, hv⟩ := ho.lookup Kd ht hz (zd := .held z) (zp := []) rfl hk
  rw [hrun]
  have h1 := hD a kl hk (.held z)
  rw [h1] at hv
  have h2 : v = ((L.lookup a).elim z venc) := by
    unfold raw at hv
    cases hl : L.lookup a with
    | none => rw [hl] at hv; simp only [Option.elim, Option.some.injEq, Prod.mk.injEq, DataW.held.injEq] at hv; exact hv.1
    | some u => rw [hl] at hv; simp only [Option.elim, Option.some.injEq, Prod.mk.injEq, DataW.held.injEq] at hv; exact hv.1
  rw [h2]
/-- A look-up with ok. -/
theorem OM.look_ok {T E : TypeId} (h : OM P K enc venc w b L) (Kd : Keyed P K) (ht : P.underlying T = some (.map K E)) {z : Value} (hz : (zeroValue E).run P w = .ok z w) {a : α} {kl : Lit} (hk : keyOf P K (enc a) = some kl) :
    (Instr.lookup T (.map (some b)) (enc a) true).run P w = .ok ((L.lookup a).elim (.tuple #[z, .bool false]) fun v => .tuple #[venc v, .bool true]) w := by
  obtain ⟨n, D, ⟨es, clock, hb, F, _, rfl⟩, _, _, hD⟩ := h
  rcases Maps.fit_look true Kd ht hz hb F hk with ⟨hrun, _, hat⟩ | ⟨e0, y, _, _, hrun, hRv, hat, _⟩
  · have h1 := (hD a kl hk (.held (.bool true))).symm.trans (hat _)
    have h2 := (hD a kl hk (.held (.bool false))).symm.trans (hat _)
    rw [hrun]
    cases hl : L.lookup a with
    | none => simp
    | some u =>
      rw [hl] at h1 h2
      simp only [Option.elim, DataW.held.injEq] at h1 h2
      rw [h1] at h2
      simp at h2
  · rw [hrun]
    have h1 := (hD a kl hk .nil).symm.trans (hat _)
    have hy : y = (.held e0.val, []) := (Option.some.inj hRv).symm
    cases hl : L.lookup a with
    | none => rw [hl, hy] at h1; simp at h1
    | some u =>
      rw [hl, hy] at h1
      simp only [Option.elim, DataW.held.injEq] at h1
      simp [h1]
/-- A store. -/
theorem OM.store {T E : TypeId} (h : OM P K enc venc w b L) (Kd : Keyed P K) (ht : P.underlying T = some (.map K E)) (hn : L.length < 9223372036854775807) (a : α) (v : β) {kl : Lit} (hk : keyOf P K (enc a) = some kl) (hinj : ∀ x y, enc x = enc y → x = y) :
    ∃ w', (Instr.mapUpdate T (.map (some b)) (enc a) (venc v)).run P w = .ok () w' ∧ OM P K enc venc w' b ((a, v) :: L) ∧ w.grownBy w' (some b) := by
  obtain ⟨n, D, ho, hm, hl, hD⟩ := h
  obtain ⟨w', hrun, ho', hg⟩ := ho.update Kd ht (by unfold maxLen; omega) (val := venc v) (d := .held (venc v)) (ps := []) hk rfl
  refine ⟨w', hrun, ⟨n + 1, D.put kl (.held (venc v)), ho', ?_, by simp; omega, ?_⟩, hg⟩
  · obtain ⟨es, rfl⟩ := hm
    exact ⟨_, rfl⟩
  · intro a' kl' hk' z
    by_cases e : a' = a
    · subst e
      rw [hk] at hk'
      obtain rfl := Option.some.inj hk'
      rw [Maps.atKey_put_same hm (Kd.key hk)]
      simp [List.lookup]
    · have hne : kl' ≠ kl := fun e2 => e (hinj _ _ (Kd.inj hk' (e2 ▸ hk)))
      rw [Maps.atKey_put_other hne, hD a' kl' hk' z]
      have : (a' == a) = false := by simpa using e
      simp [List.lookup, this]
end

/-! ### Sets: maps from keys to true -/
/-- Is the key in the list? (The walk does not look into it.) -/
def has {α : Type} [DecidableEq α] (L : List α) (a : α) : Bool := decide (a ∈ L)
section
variable {α : Type} [DecidableEq α]
/-- Block b of w is a set that has the keys in L. -/
def OSet (P : Program) (K : TypeId) (enc : α → Value) (w : World) (b : Nat) (L : List α) : Prop := OM P K enc Value.bool w b (L.map fun a => (a, true))
theorem lookup_true (L : List α) (a : α) : (L.map fun a => (a, true)).lookup a = if a ∈ L then some true else none := by
  induction L with
  | nil => rfl
  | cons x L ih =>
    simp only [List.map_cons, List.lookup, List.mem_cons]
    by_cases e : a = x
    · subst e; simp
    · have : (a == x) = false := by simpa using e
      rw [this, ih]
      simp [e]
variable {P : Program} {K : TypeId} {enc : α → Value} {w : World} {b : Nat} {L : List α}
theorem OSet_made (P : Program) (K : TypeId) (enc : α → Value) (w : World) : OSet P K enc (w.alloc (.map #[] 0)) w.heap.size [] := OM_made P K enc Value.bool w
theorem OSet_lt (h : OSet P K enc w b L) : b < w.heap.size := OM.lt h
theorem OSet_alloc (h : OSet P K enc w b L) (o : Obj) : OSet P K enc (w.alloc o) b L := OM_alloc h o
theorem OSet_drewN (h : OSet P K enc w b L) (n : Nat) : OSet P K enc (w.drewN n) b L := h
theorem OSet_drew (h : OSet P K enc w b L) : OSet P K enc w.drew b L := h
theorem OSet_below {w' : World} (h : OSet P K enc w b L) (hb : Below w.heap.size w w') : OSet P K enc w' b L := OM_below h hb
theorem OSet_far {p : Addr} (h : OSet P K enc w b L) (hne : b ≠ p.block) (u : Value) : OSet P K enc (w.setCell p u) b L := OM_far h hne u
theorem OSet_grown {w' : World} {row : Option Nat} (h : OSet P K enc w b L) (hg : w.grownBy w' row) (hne : some b ≠ row) : OSet P K enc w' b L := OM_grown h hg hne
section
variable {ops : Array Oper} {rest : List Oper} {o : Oper} {a : Act} {Q : Exit → Act → World → Prop}
theorem look_set {T E : TypeId} (hg : o.guard = none) (m x : Operand) (hop : o.op = Op.lookup T m x false) (Kd : Keyed P K) (ht : P.underlying T = some (.map K E)) (hz : ∀ w, (zeroValue E).run P w = .ok (.bool false) w)
    (hm : a.eval m = .map (some b)) (ho : OSet P K enc w b L) (key : α) {kl : Lit} (hx : a.eval x = enc key) (hk : keyOf P K (enc key) = some kl)
    (h : wpList P ops Q rest (a.put o.dst (.bool (has L key))) w) : wpList P ops Q (o :: rest) a w := by
  refine wpList_plain hg fun K' hK' => ?_
  have hrun := OM.look ho Kd ht (hz w) hk
  have e : ((L.map fun a => (a, true)).lookup key).elim (.bool false) Value.bool = .bool (has L key) := by
    rw [lookup_true]
    unfold has
    by_cases hin : key ∈ L <;> simp [hin]
  rw [e] at hrun
  unfold Oper.wp
  simp [execOp, hop, hm, hx, hrun, Result.andThen]
  exact hK' _ _ h
theorem store_set {T E : TypeId} (hg : o.guard = none) (m x v : Operand) (hop : o.op = Op.mapUpdate T m x v) (Kd : Keyed P K) (ht : P.underlying T = some (.map K E))
    (hm : a.eval m = .map (some b)) (ho : OSet P K enc w b L) (hn : L.length < 9223372036854775807) (key : α) {kl : Lit} (hx : a.eval x = enc key) (hv : a.eval v = .bool true) (hk : keyOf P K (enc key) = some kl) (hinj : ∀ x y, enc x = enc y → x = y)
    (h : ∀ w1, OSet P K enc w1 b (key :: L) → w.grownBy w1 (some b) → wpList P ops Q rest (a.put o.dst undef) w1) : wpList P ops Q (o :: rest) a w := by
  refine wpList_plain hg fun K' hK' => ?_
  obtain ⟨w', hrun, r1, r2⟩ := OM.store ho Kd ht (by simpa using hn) key true hk hinj
  unfold Oper.wp
  simp [execOp, hop, hm, hx, hv, hrun, Result.andThen]
  exact hK' _ _ (h w' r1 r2)
end
end

/-- Keys that are whole numbers. -/
def ik (a : Int) : Value := .int .i64 a
theorem ik_inj (x y : Int) (h : ik x = ik y) : x = y := by unfold ik at h; injection h
theorem ik_key {P : Program} {K : TypeId} (hK : P.underlying K = some (.int .i64)) {a : Int} (h : inI64 a = true) : keyOf P K (ik a) = some (.int .i64 a) := Maps.keyOf_int_mk hK (inI64_wf h)
/-- Keys that are pairs of whole numbers. -/
def pk (a : Int × Int) : Value := .agg #[.int .i64 a.1, .int .i64 a.2]
theorem pk_inj (x y : Int × Int) (h : pk x = pk y) : x = y := by
  unfold pk at h
  injection h with h
  simp at h
  exact Prod.ext h.1 h.2
end Go.Proofs.Ytkehoglbpiibmaa.Mp
