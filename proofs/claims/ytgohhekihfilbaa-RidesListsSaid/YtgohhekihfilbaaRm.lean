/- Rides: Merge of the program lays two stores into one. -/
import Derived.Test.YtgohhekihfilbaaMx4
import Derived.Test.YtgohhekihfilbaaRl
namespace Go.Proofs.Ytgohhekihfilbaa.Rl
open Go.RowKit Go.Proofs.Ytgohhekihfilbaa.M Go.Proofs.YtgohhekihfilbaaW.PrintWords Go.Proofs.YtgohhekihfilbaaW.PrintLast Go.Proofs.YtgohhekihfilbaaW.PrintMore
set_option linter.unusedSimpArgs false

/-! ### The program's Merge -/
def ent (x : S28) : (Int × Int) × S28 := (ky x, x)
theorem look_cons (q : Int × Int) (x : S28) (m : List ((Int × Int) × S28)) : Mp.look q (ent x :: m) = if q = ky x then some x else Mp.look q m := Mp.look_cons q (ky x) x m
theorem look_rev (q : Int × Int) (l : List S28) : (∀ x, Mp.look q (l.map ent).reverse = some x → x ∈ l ∧ ky x = q) ∧ (Mp.look q (l.map ent).reverse = none → ∀ x ∈ l, ky x ≠ q) := by
  have key : ∀ m : List S28, (∀ x, Mp.look q (m.map ent) = some x → x ∈ m ∧ ky x = q) ∧ (Mp.look q (m.map ent) = none → ∀ x ∈ m, ky x ≠ q) := by
    intro m
    induction m with
    | nil => exact ⟨fun x h => by simp [Mp.look] at h, fun _ x hx => by simp at hx⟩
    | cons y m ih =>
      rw [List.map_cons, look_cons]
      by_cases h : q = ky y
      · rw [if_pos h]
        exact ⟨fun x hx => by obtain rfl := Option.some.inj hx; exact ⟨by simp, h.symm⟩, fun hn => by simp at hn⟩
      · rw [if_neg h]
        refine ⟨fun x hx => ⟨List.mem_cons_of_mem _ (ih.1 x hx).1, (ih.1 x hx).2⟩, fun hn x hx => ?_⟩
        rcases List.mem_cons.1 hx with rfl | hx
        · exact fun e => h e.symm
        · exact ih.2 hn x hx
  have h := key l.reverse
  rw [List.map_reverse] at h
  exact ⟨fun x hx => by simpa using h.1 x hx, fun hn x hx => h.2 hn x (by simpa using hx)⟩
/-- What the second loop does: the rides of b that are new, behind out. -/
def cgo (m : List ((Int × Int) × S28)) : List S28 → List S28 → Option (List S28)
  | out, [] => some out
  | out, y :: r => match Mp.look (ky y) m with
    | some x => if x ≠ y then none else cgo m out r
    | none => cgo m (out ++ [y]) r
def cfin : Option (List S28) → List S28 × Int
  | none => ([], 15)
  | some out => if (out.length : Int) > 2000 then ([], 9) else (Sr.srt rides_order_cf out, 0)
theorem inI64_ok {x : S28} (h : ¬ bad x) : Mp.inI64 x.f0 = true ∧ Mp.inI64 x.f1 = true := by
  unfold bad at h
  exact ⟨Mp.inI64_of (by omega) (by omega), Mp.inI64_of (by omega) (by omega)⟩
theorem Merge_go2 (m : List ((Int × Int) × S28)) (b : List S28) (hb : ∀ x ∈ b, ¬ bad x) (hl : b.length ≤ 1000000) (d : Nat) : ∀ (j : Nat) (out : List S28), b.length - j = d → j ≤ b.length → out.length ≤ 1000000 + j →
    Ev (fun k => rides_Merge.l1 k m out b (b.length : Int) (j : Int)) (cfin (cgo m out (b.drop j))) := by
  induction d with
  | zero =>
    intro j out hd hj ho
    refine Ev.at1 ?_
    simp only [rides_Merge.l1, if_neg (show ¬ ((j : Int) < (b.length : Int)) by omega)]
    rw [List.drop_of_length_le (by omega), cgo, cfin]
    by_cases h : (out.length : Int) > 2000
    · simp only [if_pos h]
      exact Ev.const _
    · simp only [if_neg h, rides_order_sort.f, if_pos (show out.length < 4611686018427387904 by omega), Option.bind_some]
      exact Ev.const _
  | succ d ih =>
    intro j out hd hj ho
    have hlt : j < b.length := by omega
    have hok := inI64_ok (hb b[j] (List.getElem_mem hlt))
    refine Ev.at1 ?_
    simp only [rides_Merge.l1, if_pos (show (j : Int) < (b.length : Int) by omega), if_pos (show (0 : Int) ≤ (j : Int) by omega), rd_at hlt, rides_keyOf.f, Option.bind_some, if_pos hok.1, if_pos hok.2]
    rw [List.drop_eq_getElem_cons hlt, cgo]
    rw [w64 (n := (j : Int) + 1) (by omega) (by omega)]
    cases hlk : Mp.look (b[j].f0, b[j].f1) m with
    | some x =>
      rw [show Mp.look (ky b[j]) m = some x from hlk]
      simp only [Option.isSome_some, if_true, Option.getD_some, ne_s28]
      by_cases hx : x = b[j]
      · simp only [hx, ne_eq, not_true, if_false]
        exact ih (j + 1) out (by omega) (by omega) (by omega)
      · simp only [ne_eq, hx, not_false_eq_true, if_true]
        exact Ev.const _
    | none =>
      rw [show Mp.look (ky b[j]) m = none from hlk]
      simp only [Option.isSome_none, Bool.false_eq_true, if_false, if_pos (show out.length < 2513169434916 by omega), S28.eta]
      exact ih (j + 1) (out ++ [b[j]]) (by omega) (by omega) (by simp; omega)
theorem Merge_go1 (a b : List S28) (ha : ∀ x ∈ a, ¬ bad x) (hl : a.length ≤ 1000000) {R : List S28 × Int} (hR : Ev (fun k => rides_Merge.l1 k (a.map ent).reverse a b (b.length : Int) 0) R) (d : Nat) : ∀ (i : Nat), a.length - i = d → i ≤ a.length →
    Ev (fun k => rides_Merge.l0 k a b ((a.take i).map ent).reverse a (a.length : Int) (i : Int)) R := by
  induction d with
  | zero =>
    intro i hd hi
    refine Ev.at1 ?_
    simp only [rides_Merge.l0, if_neg (show ¬ ((i : Int) < (a.length : Int)) by omega), api_Ride_33.f, Option.bind_some, List.length_nil, Nat.zero_add, if_pos (show a.length < 2513169434916 by omega), List.nil_append]
    rw [List.take_of_length_le (by omega)]
    exact hR
  | succ d ih =>
    intro i hd hi
    have hlt : i < a.length := by omega
    have hok := inI64_ok (ha a[i] (List.getElem_mem hlt))
    refine Ev.at1 ?_
    simp only [rides_Merge.l0, if_pos (show (i : Int) < (a.length : Int) by omega), if_pos (show (0 : Int) ≤ (i : Int) by omega), rd_at hlt, rides_keyOf.f, Option.bind_some, if_pos hok.1, if_pos hok.2, if_pos (show ((a.take i).map ent).reverse.length < 4611686018427387904 by simp; omega), MAPPUT50.f, S28.eta]
    rw [w64 (n := (i : Int) + 1) (by omega) (by omega)]
    have h := ih (i + 1) (by omega) (by omega)
    rw [List.take_succ_eq_append_getElem hlt, List.map_append, List.reverse_append] at h
    exact h
/-- The new rides. -/
theorem cgo_some {m : List ((Int × Int) × S28)} : ∀ {l out r : List S28}, cgo m out l = some r → (∀ x, x ∈ r ↔ x ∈ out ∨ (x ∈ l ∧ Mp.look (ky x) m = none)) ∧ (∀ y ∈ l, ∀ x, Mp.look (ky y) m = some x → x = y)
  | [], out, r, h => by
    rw [cgo] at h
    obtain rfl := Option.some.inj h
    exact ⟨fun x => by simp, fun y hy => by simp at hy⟩
  | y :: l, out, r, h => by
    rw [cgo] at h
    split at h
    · rename_i x hx
      split at h
      · simp at h
      · rename_i hxy
        have hxy : x = y := Classical.not_not.1 hxy
        obtain ⟨h1, h2⟩ := cgo_some h
        refine ⟨fun z => ?_, fun z hz u hu => ?_⟩
        · rw [h1 z, List.mem_cons]
          constructor
          · rintro (h | ⟨h, h'⟩)
            · exact .inl h
            · exact .inr ⟨.inr h, h'⟩
          · rintro (h | ⟨rfl | h, h'⟩)
            · exact .inl h
            · rw [hx] at h'; simp at h'
            · exact .inr ⟨h, h'⟩
        · rcases List.mem_cons.1 hz with rfl | hz
          · rw [hx] at hu
            obtain rfl := Option.some.inj hu
            exact hxy
          · exact h2 z hz u hu
    · rename_i hx
      obtain ⟨h1, h2⟩ := cgo_some h
      refine ⟨fun z => ?_, fun z hz u hu => ?_⟩
      · rw [h1 z, List.mem_append, List.mem_singleton, List.mem_cons]
        constructor
        · rintro ((h | rfl) | ⟨h, h'⟩)
          · exact .inl h
          · exact .inr ⟨.inl rfl, hx⟩
          · exact .inr ⟨.inr h, h'⟩
        · rintro (h | ⟨rfl | h, h'⟩)
          · exact .inl (.inl h)
          · exact .inl (.inr rfl)
          · exact .inr ⟨h, h'⟩
      · rcases List.mem_cons.1 hz with rfl | hz
        · rw [hx] at hu; simp at hu
        · exact h2 z hz u hu
theorem cgo_none {m : List ((Int × Int) × S28)} : ∀ {l out : List S28}, cgo m out l = none → ∃ y ∈ l, ∃ x, Mp.look (ky y) m = some x ∧ x ≠ y
  | [], out, h => by rw [cgo] at h; simp at h
  | y :: l, out, h => by
    rw [cgo] at h
    split at h
    · rename_i x hx
      split at h
      · rename_i hxy
        exact ⟨y, by simp, x, hx, hxy⟩
      · obtain ⟨z, hz, u, hu⟩ := cgo_none h
        exact ⟨z, List.mem_cons_of_mem _ hz, u, hu⟩
    · obtain ⟨z, hz, u, hu⟩ := cgo_none h
      exact ⟨z, List.mem_cons_of_mem _ hz, u, hu⟩
theorem cgo_nodup {m : List ((Int × Int) × S28)} : ∀ {l out r : List S28}, cgo m out l = some r → out.Nodup → l.Nodup → (∀ x ∈ l, x ∉ out) → r.Nodup
  | [], out, r, h, ho, _, _ => by
    rw [cgo] at h
    obtain rfl := Option.some.inj h
    exact ho
  | y :: l, out, r, h, ho, hl, hx => by
    obtain ⟨hl1, hl2⟩ := List.nodup_cons.1 hl
    rw [cgo] at h
    split at h
    · split at h
      · simp at h
      · exact cgo_nodup h ho hl2 (fun x hx' => hx x (by simp [hx']))
    · refine cgo_nodup h ?_ hl2 ?_
      · rw [List.nodup_append]
        refine ⟨ho, by simp, ?_⟩
        intro u hu v hv e
        rw [List.mem_singleton] at hv
        subst hv
        subst e
        exact hx u (by simp) hu
      · intro x hx' hm
        rw [List.mem_append, List.mem_singleton] at hm
        rcases hm with hm | rfl
        · exact hx x (by simp [hx']) hm
        · exact hl1 hx'
theorem nodup_of {l : List S28} (h : l.Pairwise lt) : l.Nodup := List.Pairwise.imp (S := fun a b => a ≠ b) (fun {a b} hab e => lt_irrefl a (by rw [← e] at hab; exact hab)) h
/-- The sort of rides of which no two have one key: the list in order. -/
theorem srt_eq {out m : List S28} (hn : out.Nodup) (hm : m.Pairwise lt) (he : ∀ x, x ∈ out ↔ x ∈ m) : Sr.srt rides_order_cf out = m := by
  obtain ⟨h1, h2⟩ := Sr.srt_spec rides_order_cf rides_order_swo out
  have hp : (Sr.srt rides_order_cf out).Perm m := h1.trans ((List.perm_ext_iff_of_nodup hn (nodup_of hm)).2 he)
  refine Lx.sorted_unique rides_order_ks 2 (fun _ => rfl) _ _ hp ?_ h2 (hm.imp fun {x y} hxy hlt => ?_)
  · intro x hx y hy e
    refine store_uniq hm (hp.mem_iff.1 hx) (hp.mem_iff.1 hy) ?_
    simp only [rides_order_ks, List.cons.injEq, and_true] at e
    unfold ky
    rw [e.1, e.2]
  · have : lt y x := (ord_lt y x).1 hlt
    exact lt_irrefl _ (lt_trans hxy this)
theorem cfin_mres {a b : List S28} (ha : a.Pairwise lt) (hb : b.Pairwise lt) : cfin (cgo (a.map ent).reverse a b) = mres a b := by
  have hlk := fun q => look_rev q a
  cases hc : cgo (a.map ent).reverse a b with
  | none =>
    obtain ⟨y, hy, x, hx, hne⟩ := cgo_none hc
    obtain ⟨h1, h2⟩ := (hlk _).1 x hx
    rw [mres, mg_conf ha hb ⟨x, h1, y, hy, h2, hne⟩]
    rfl
  | some r =>
    obtain ⟨h1, h2⟩ := cgo_some hc
    have hnc : ¬ conf a b := by
      rintro ⟨x, hx, y, hy, e, ne⟩
      cases hl : Mp.look (ky y) (a.map ent).reverse with
      | none => exact (hlk _).2 hl x hx e
      | some z =>
        obtain ⟨h3, h4⟩ := (hlk _).1 z hl
        have : z = x := store_uniq ha h3 hx (h4.trans e.symm)
        exact ne (this ▸ h2 y hy z hl)
    cases hm : mg a b with
    | none => exact absurd (mg_none hm) hnc
    | some m =>
      obtain ⟨h3, h4, _⟩ := mg_some ha hb hm
      have hb2 : b.Nodup := nodup_of hb
      have hmem : ∀ x, x ∈ r ↔ x ∈ m := by
        intro x
        rw [h1 x, h4 x]
        constructor
        · rintro (h | ⟨h, _⟩)
          · exact .inl h
          · exact .inr h
        · rintro (h | h)
          · exact .inl h
          · cases hl : Mp.look (ky x) (a.map ent).reverse with
            | none => exact .inr ⟨h, rfl⟩
            | some z =>
              have := h2 x h z hl
              exact .inl (this ▸ ((hlk _).1 z hl).1)
      -- the rides of b that are in a are not laid again
      have hnd : r.Nodup := by
        have hsub : ∀ {l out r : List S28}, cgo (a.map ent).reverse out l = some r → out.Nodup → l.Nodup → (∀ x ∈ l, Mp.look (ky x) (a.map ent).reverse = none → x ∉ out) → r.Nodup := by
          intro l
          induction l with
          | nil => intro out r h ho _ _; rw [cgo] at h; obtain rfl := Option.some.inj h; exact ho
          | cons y l ih =>
            intro out r h ho hl hx
            obtain ⟨hl1, hl2⟩ := List.nodup_cons.1 hl
            rw [cgo] at h
            split at h
            · split at h
              · simp at h
              · exact ih h ho hl2 (fun x hx' => hx x (by simp [hx']))
            · rename_i hn
              refine ih h ?_ hl2 ?_
              · rw [List.nodup_append]
                refine ⟨ho, by simp, ?_⟩
                intro u hu v hv e
                rw [List.mem_singleton] at hv
                subst hv
                subst e
                exact hx u (by simp) hn hu
              · intro x hx' hn' hm'
                rw [List.mem_append, List.mem_singleton] at hm'
                rcases hm' with hm' | rfl
                · exact hx x (by simp [hx']) hn' hm'
                · exact hl1 hx'
        exact hsub hc (nodup_of ha) hb2 (fun x _ hn hxa => (hlk _).2 hn x hxa rfl)
      have hlen : r.length = m.length := ((List.perm_ext_iff_of_nodup hnd (nodup_of h3)).2 hmem).length_eq
      rw [mres, hm, cfin, hlen, srt_eq hnd h3 hmem]
theorem Merge_ev {a b : List S28} (ha : store a) (hb : store b) (hla : a.length ≤ 1000000) (hlb : b.length ≤ 1000000) : Ev (fun k => rides_Merge.f k a b) (mres a b) := by
  rw [← cfin_mres ha.2 hb.2]
  have h2 := Merge_go2 (a.map ent).reverse b hb.1 hlb b.length 0 a (by omega) (by omega) (by omega)
  rw [List.drop_zero] at h2
  exact Merge_go1 a b ha.1 hla h2 a.length 0 (by omega) (by omega)
end Go.Proofs.Ytgohhekihfilbaa.Rl
