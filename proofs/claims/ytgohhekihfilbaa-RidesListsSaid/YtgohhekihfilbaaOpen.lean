/- What a law's arguments read as, laid open into plain Lean values, by kinds: whole numbers, bools, slices, structs, nested in any way. -/
import Derived.Test.YtgohhekihfilbaaWWords
import Derived.ChangeSlices
import Derived.ChangeArms
import Derived.Deep.Slices
import Derived.SizedLaws
namespace Go.Proofs.Ytgohhekihfilbaa.Opn
open Go.ChangeShapes Go.WideShapes Go.Deep
open Go.Proofs.YtgohhekihfilbaaW.PrintWords

/-- What lies in cells of type t is some value of kind d, and that value is good. -/
structure Opens {α : Type} (P : Program) (t : TypeId) (d : Kd α) (good : α → Prop) : Prop where
  sz : P.cellsOf t = d.sz
  opn : ∀ {H : Type} {enc : TypeId × Value → H} {w : World} {base : Nat} {spare : Nat → Bool} {held : Bool} {fuel : Nat} {cs : List Value} {x : DataW H × List MemPlace},
    DataW.trod enc P w base spare held fuel t cs = some x → ∃ a, d.K w a cs ∧ good a

theorem opens_int {P : Program} {t : TypeId} {k : IntKind} (ht : P.underlying t = some (.int k)) (hc : P.cellsOf t = 1) : Opens P t (Kd.int k) (fun x => (Lit.int k x).wf = true) where
  sz := hc
  opn := by
    intro H enc w base spare held fuel cs x h
    obtain ⟨n, hcs, _, hw⟩ := DataW.trod_int ht h
    exact ⟨n, hcs, hw⟩

theorem opens_bool {P : Program} {t : TypeId} (ht : P.underlying t = some .bool) (hc : P.cellsOf t = 1) : Opens P t Kd.bool (fun _ => True) where
  sz := hc
  opn := by
    intro H enc w base spare held fuel cs x h
    cases fuel with
    | zero => simp [DataW.trod] at h
    | succ n =>
      unfold DataW.trod at h
      rw [ht] at h
      split at h <;> simp_all
      rename_i b
      cases b
      · exact .inl rfl
      · exact .inr rfl

/-- How a slice's elements are told. -/
theorem C_of_each {α : Type} {d : Kd α} {w : World} {a : Addr} {len : Nat} {f : Nat → α} (hm : len ≤ 9223372036854775807)
    (hf : ∀ i, i < len → ∃ c, c.length = d.sz ∧ d.K w (f i) c ∧ ∀ j u, c[j]? = some u → w.cell? (a.add (i * d.sz + j)) = some u) : d.C w (some a) len ((List.range len).map f) := by
  refine ⟨by simp, hm, fun _ => ⟨a, rfl, fun j p hj => ?_⟩⟩
  have hjl : j < len := by
    have := (List.getElem?_eq_some_iff.1 hj).1
    simpa using this
  have hp : p = f j := by
    rw [List.getElem?_map, List.getElem?_range hjl] at hj
    exact (Option.some.inj hj).symm
  subst hp
  exact hf j hjl

theorem opens_slice {α : Type} [Inhabited α] {P : Program} {t e : TypeId} {d : Kd α} {good : α → Prop} (ht : P.underlying t = some (.slice e)) (hc : P.cellsOf t = 1) (he : Opens P e d good) :
    Opens P t (Kd.slice e d) (fun xs => xs.length ≤ maxLen ∧ ∀ x ∈ xs, good x) where
  sz := hc
  opn := by
    intro H enc w base spare held fuel cs x h
    rcases open_slice ht h with ⟨rfl, _⟩ | ⟨a, len, cap, m, n, D, Pl, rfl, hb, hl, hm, hmm, _, hi⟩
    · exact ⟨[], ⟨none, 0, rfl, Nat.le_refl _, rfl, by simp, fun h0 => absurd h0 (by simp)⟩, by simp, by simp⟩
    · have hlm : len ≤ m := by rw [hmm]; split <;> omega
      have key : ∀ i, i < len → ∃ y : α, (∃ c, c.length = d.sz ∧ d.K w y c ∧ ∀ j u, c[j]? = some u → w.cell? (a.add (i * d.sz + j)) = some u) ∧ good y := by
        intro i hil
        obtain ⟨cs', hcs, htr⟩ := hi i (by omega)
        obtain ⟨y, hK, hg⟩ := he.opn htr
        obtain ⟨_, hcl, hat⟩ := World.cells?_some hcs
        refine ⟨y, ⟨cs', d.K_len hK, hK, fun j u hu => ?_⟩, hg⟩
        have hj : j < P.cellsOf e := by
          have := (List.getElem?_eq_some_iff.1 hu).1
          omega
        have h1 := hat j hj
        rw [← he.sz, ← Go.Deep.add_add, h1, hu]
      obtain ⟨f, hf⟩ := choose_lt key
      have hmx : cap ≤ 9223372036854775807 := by simpa [maxLen] using hm
      have hC := C_of_each (d := d) (w := w) (a := a) (len := len) (f := f) (by omega) (fun i hil => (hf i hil).1)
      have hlen : ((List.range len).map f).length = len := by simp
      refine ⟨(List.range len).map f, ⟨some a, cap, ?_, by omega, ?_⟩, by omega, fun x hx => ?_⟩
      · rw [hlen]
      · rw [hlen]; exact hC
      · obtain ⟨i, hir, rfl⟩ := List.mem_map.1 hx
        exact (hf i (List.mem_range.1 hir)).2

/-- The fields of a struct from number j on, which begin at cell off. -/
structure OpensF {α : Type} (P : Program) (fs : Array Field) (j off : Nat) (d : Kd α) (good : α → Prop) : Prop where
  opn : ∀ {H : Type} {enc : TypeId × Value → H} {w : World} {base : Nat} {spare : Nat → Bool} {held : Bool} {n : Nat} {cs : List Value} {xs : List (DataW H × List MemPlace)},
    xs.length = fs.size → cs.length = off + d.sz → (∀ (i : Nat) (f : Field), fs[i]? = some f → DataW.trod enc P w base spare held n f.type ((cs.drop f.offset).take (P.cellsOf f.type)) = xs[i]?) → ∃ a, d.K w a (cs.drop off) ∧ good a

theorem opensF_last {α : Type} {P : Program} {fs : Array Field} {j off : Nat} {f : Field} {d : Kd α} {good : α → Prop} (hf : fs[j]? = some f) (ho : f.offset = off) (h : Opens P f.type d good) : OpensF P fs j off d good where
  opn := by
    intro H enc w base spare held n cs xs hx hl hg
    have h1 := hg j f hf
    have hj : j < fs.size := (Array.getElem?_eq_some_iff.1 hf).1
    rw [List.getElem?_eq_getElem (by omega), ho, h.sz, List.take_of_length_le (by rw [List.length_drop]; omega)] at h1
    exact h.opn h1

theorem opensF_cons {α β : Type} {P : Program} {fs : Array Field} {j off : Nat} {f : Field} {d : Kd α} {good : α → Prop} {d' : Kd β} {good' : β → Prop} (hf : fs[j]? = some f) (ho : f.offset = off) (h : Opens P f.type d good)
    (h' : OpensF P fs (j + 1) (off + d.sz) d' good') : OpensF P fs j off (Kd.pair d d') (fun x => good x.1 ∧ good' x.2) where
  opn := by
    intro H enc w base spare held n cs xs hx hl hg
    have h1 := hg j f hf
    have hj : j < fs.size := (Array.getElem?_eq_some_iff.1 hf).1
    rw [List.getElem?_eq_getElem (by omega), ho, h.sz] at h1
    obtain ⟨a, hK, hga⟩ := h.opn h1
    have hl' : cs.length = off + (d.sz + d'.sz) := hl
    obtain ⟨b, hK', hgb⟩ := h'.opn hx (by omega) hg
    refine ⟨(a, b), ⟨(cs.drop off).take d.sz, cs.drop (off + d.sz), ?_, hK, hK'⟩, hga, hgb⟩
    rw [← List.drop_drop, List.take_append_drop]

theorem opens_struct {α β : Type} {P : Program} {t : TypeId} {fs : Array Field} {d : Kd α} {good : α → Prop} {f : β → α} (g : α → β) (hgf : ∀ a, f (g a) = a) (ht : P.underlying t = some (.struct fs)) (hc : P.cellsOf t = d.sz) (h : OpensF P fs 0 0 d good) :
    Opens P t (Kd.iso d f) (fun x => good (f x)) where
  sz := hc
  opn := by
    intro H enc w base spare held fuel cs x ht'
    obtain ⟨xs, n, _, _, hcl, hxl, hf⟩ := DataW.trod_struct ht ht'
    obtain ⟨a, hK, hga⟩ := h.opn hxl (by omega) hf
    refine ⟨g a, ?_, ?_⟩
    · show d.K w (f (g a)) cs
      rw [hgf]
      simpa using hK
    · show good (f (g a))
      rw [hgf]
      exact hga

theorem Opens.imp {α : Type} {P : Program} {t : TypeId} {d : Kd α} {good good' : α → Prop} (h : Opens P t d good) (hi : ∀ a, good a → good' a) : Opens P t d good' where
  sz := h.sz
  opn := by
    intro H enc w base spare held fuel cs x hx
    obtain ⟨a, hK, hg⟩ := h.opn hx
    exact ⟨a, hK, hi a hg⟩

/-- An argument that is a slice. -/
theorem open_sl {H : Type} {enc : TypeId × Value → H} {α : Type} {P : Program} {W : World} {base b0 : Nat} {spare : Nat → Bool} {held : Bool} {r : Reach} {t e : TypeId} {d : Kd α} {good : List α → Prop} {v : Value} {x : DataW H} {ps : List MemPlace}
    (hO : Opens P t (Kd.slice e d) good) (hu : P.underlying t = some (.slice e)) (hv : Value.okWide P W r b0 t v) (h : DataW.Trod enc P W base spare held t v x ps) :
    ∃ (A : Option Addr) (c : Nat) (l : List α), v = .slice A l.length c ∧ l.length ≤ c ∧ d.C W A l.length l ∧ good l := by
  obtain ⟨a, len, cap, rfl⟩ := okWide_slice hu hv
  obtain ⟨fuel, hf⟩ := h
  obtain ⟨l, ⟨A, c, hcs, hl, hC⟩, hg⟩ := hO.opn hf
  simp [Value.cells] at hcs
  obtain ⟨rfl, rfl, rfl⟩ := hcs
  exact ⟨_, _, l, rfl, hl, hC, hg⟩

/-- An argument that is a struct. -/
theorem open_st {H : Type} {enc : TypeId × Value → H} {α : Type} {P : Program} {W : World} {base b0 : Nat} {spare : Nat → Bool} {held : Bool} {r : Reach} {t : TypeId} {fs : Array Field} {d : Kd α} {good : α → Prop} {v : Value} {x : DataW H} {ps : List MemPlace}
    (hO : Opens P t d good) (hu : P.underlying t = some (.struct fs)) (hv : Value.okWide P W r b0 t v) (h : DataW.Trod enc P W base spare held t v x ps) :
    ∃ (cs : List Value) (a : α), v = .agg cs.toArray ∧ d.K W a cs ∧ good a := by
  obtain ⟨cs, rfl, hsz⟩ := okWide_struct hu hv
  obtain ⟨fuel, hf⟩ := h
  obtain ⟨a, hK, hg⟩ := hO.opn hf
  exact ⟨cs.toList, a, by simp, by simpa [Value.cells] using hK, hg⟩

/-- A row's slice is no longer than its weight allows. -/
theorem sized_any {H : Type} {enc : TypeId × Value → H} {P : Program} {W : World} {base : Nat} {spare : Nat → Bool} {held : Bool} {t e : TypeId} {a : Option Addr} {len cap : Nat} {d : DataW H} {ps : List MemPlace} {ts : List TypeId} {ds : List (DataW H)} {j : Nat}
    (hsz : (DataW.weightsEach P ts ds).all (· ≤ reachBytes) = true) (ht : ts[j]? = some t) (hd : ds[j]? = some d) (hu : P.underlying t = some (.slice e)) {B : Nat} (hB : P.bytesOf e = B)
    (h : DataW.Trod enc P W base spare held t (.slice a len cap) d ps) : len * B ≤ 140737488351232 := by
  obtain ⟨fuel, hf⟩ := h
  rcases open_slice hu hf with ⟨hcs, _⟩ | ⟨a', len', cap', m, n, D, Pl, hcs, _, hl, _, hmm, hx, _⟩
  · simp [Value.cells] at hcs
    obtain ⟨rfl, rfl, rfl⟩ := hcs
    simp
  · simp [Value.cells] at hcs
    obtain ⟨rfl, rfl, rfl⟩ := hcs
    obtain ⟨hx, _⟩ := Prod.mk.inj hx
    subst hx
    have z := sized_slice hsz ht hd hu
    rw [hB] at z
    exact Nat.le_trans (Nat.mul_le_mul_right _ (by simp)) z
end Go.Proofs.Ytgohhekihfilbaa.Opn
