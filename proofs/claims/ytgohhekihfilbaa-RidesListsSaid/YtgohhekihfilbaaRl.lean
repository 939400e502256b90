/- Rides: what the loops of the program and of the reference come to, as plain laws of ordered lists. -/
import Derived.Test.YtgohhekihfilbaaMx4
import Derived.Test.YtgohhekihfilbaaGood
namespace Go.Proofs.Ytgohhekihfilbaa.Rl
open Go.RowKit Go.Proofs.Ytgohhekihfilbaa.M Go.Proofs.YtgohhekihfilbaaW.PrintWords Go.Proofs.YtgohhekihfilbaaW.PrintLast Go.Proofs.YtgohhekihfilbaaW.PrintMore
set_option linter.unusedSimpArgs false

theorem w64 {n : Int} (h0 : -9223372036854775808 ≤ n) (h1 : n ≤ 9223372036854775807) : wrap64 n = n := by unfold wrap64; omega
theorem Ev.at1 {α : Type} {g : Nat → Option α} {r : α} (h : Ev (fun k => g (k + 1)) r) : Ev g r := Ev.step (fun _ => rfl) h
theorem Ev.const {α : Type} (r : α) : Ev (fun _ => some r) r := Ev.now r

theorem S28.eta (x : S28) : (⟨x.f0, x.f1, x.f2, x.f3, x.f4, x.f5, x.f6⟩ : S28) = x := rfl
theorem S28.ext {x y : S28} (h0 : x.f0 = y.f0) (h1 : x.f1 = y.f1) (h2 : x.f2 = y.f2) (h3 : x.f3 = y.f3) (h4 : x.f4 = y.f4) (h5 : x.f5 = y.f5) (h6 : x.f6 = y.f6) : x = y := by
  cases x; cases y; simp_all
instance : DecidableEq S28 := fun x y =>
  if h : x.f0 = y.f0 ∧ x.f1 = y.f1 ∧ x.f2 = y.f2 ∧ x.f3 = y.f3 ∧ x.f4 = y.f4 ∧ x.f5 = y.f5 ∧ x.f6 = y.f6 then isTrue (S28.ext h.1 h.2.1 h.2.2.1 h.2.2.2.1 h.2.2.2.2.1 h.2.2.2.2.2.1 h.2.2.2.2.2.2)
  else isFalse (by rintro rfl; exact h ⟨rfl, rfl, rfl, rfl, rfl, rfl, rfl⟩)
/-- The machine's '!=' of two rides. -/
theorem ne_s28 (x y : S28) : ((!(x.f0 == y.f0) || (!(x.f1 == y.f1) || (!(x.f2 == y.f2) || (!(x.f3 == y.f3) || (!(x.f4 == y.f4) || (!(x.f5 == y.f5) || (!(x.f6 == y.f6)))))))) = true) ↔ x ≠ y := by
  simp only [Bool.or_eq_true, Bool.not_eq_true', beq_eq_false_iff_ne]
  constructor
  · rintro h rfl
    simp at h
  · intro h
    by_cases h0 : x.f0 = y.f0 <;> by_cases h1 : x.f1 = y.f1 <;> by_cases h2 : x.f2 = y.f2 <;> by_cases h3 : x.f3 = y.f3 <;> by_cases h4 : x.f4 = y.f4 <;> by_cases h5 : x.f5 = y.f5 <;> by_cases h6 : x.f6 = y.f6 <;> simp_all
    exact h (S28.ext h0 h1 h2 h3 h4 h5 h6)

/-! ### One ride, two rides -/
def bad (x : S28) : Prop := x.f0 < 1 ∨ 9999 < x.f0 ∨ x.f2 < 1 ∨ 9999 < x.f2 ∨ x.f4 < 1 ∨ 9999 < x.f4 ∨ x.f5 < 1 ∨ 9999 < x.f5 ∨ x.f1 < 1 ∨ 1000000 < x.f1 ∨ x.f3 < 1 ∨ 1000000 < x.f3 ∨ x.f6 < 0 ∨ 20000000 < x.f6
instance (x : S28) : Decidable (bad x) := by unfold bad; infer_instance
theorem check_eq (x : S28) : rides_check.f x.f0 x.f1 x.f2 x.f3 x.f4 x.f5 x.f6 = some (if bad x then 2 else 0) := rfl
/-- One ride stands ahead of another. -/
def lt (x y : S28) : Prop := x.f0 < y.f0 ∨ (x.f0 = y.f0 ∧ x.f1 < y.f1)
instance (x y : S28) : Decidable (lt x y) := by unfold lt; infer_instance
def ky (x : S28) : Int × Int := (x.f0, x.f1)
theorem lt_trans {x y z : S28} (h1 : lt x y) (h2 : lt y z) : lt x z := by unfold lt at *; omega
theorem lt_irrefl (x : S28) : ¬ lt x x := by unfold lt; omega
theorem lt_ky {x y : S28} (h : lt x y) : ky x ≠ ky y := by
  unfold ky lt at *
  intro e
  rw [Prod.mk.injEq] at e
  omega
theorem lt_tri {x y : S28} (h1 : ¬ lt x y) (h2 : ¬ lt y x) : ky x = ky y := by
  unfold lt ky at *
  rw [Prod.mk.injEq]
  omega
theorem ord_lt (x y : S28) : rides_order_cf x y < 0 ↔ lt x y := by
  simp only [rides_order_cf, rides_order_ks, Lx.lexL, lt]
  repeat' split
  all_goals omega
theorem ord_neg (x y : S28) : rides_order_cf x y ≥ 0 ↔ ¬ lt x y := by
  rw [← ord_lt]; omega
theorem order_ev (x y : S28) : Ev (fun k => rides_order.f k x.f0 x.f1 x.f2 x.f3 x.f4 x.f5 x.f6 y.f0 y.f1 y.f2 y.f3 y.f4 y.f5 y.f6) (rides_order_cf x y) :=
  Ev.of (fun k => rides_order.mono _ _ _ _ _ _ _ _ _ _ _ _ _ _ k) (k := 6) (rides_order_cfE x y)

/-! ### Right -/
/-- The first error of the rides behind p. -/
def rgo : Option S28 → List S28 → Int
  | _, [] => 0
  | p, x :: r => if bad x then 2 else match p with | some y => if lt y x then rgo (some x) r else 11 | none => rgo (some x) r
def rightS (l : List S28) : Int := if (l.length : Int) > 2000 then 4 else rgo none l
theorem rd_at {l : List S28} {i : Nat} (h : i < l.length) : rd_T28 l (i : Int) = l[i] := by simp [rd_T28, h]
def prev (l : List S28) (i : Nat) : Option S28 := if i = 0 then none else l[i - 1]?
theorem Right_go (l : List S28) (hl : l.length ≤ 2000) (d : Nat) : ∀ i : Nat, l.length - i = d → i ≤ l.length →
    Ev (fun k => rides_Right.l0 k l l (l.length : Int) (i : Int)) (rgo (prev l i) (l.drop i)) := by
  induction d with
  | zero =>
    intro i hd hi
    refine Ev.at1 ?_
    simp only [rides_Right.l0, if_neg (show ¬ ((i : Int) < (l.length : Int)) by omega)]
    rw [List.drop_of_length_le (by omega)]
    exact Ev.const _
  | succ d ih =>
    intro i hd hi
    have hlt : i < l.length := by omega
    refine Ev.at1 ?_
    simp only [rides_Right.l0, if_pos (show (i : Int) < (l.length : Int) by omega), if_pos (show (0 : Int) ≤ (i : Int) by omega), rd_at hlt, check_eq, Option.bind_some]
    rw [List.drop_eq_getElem_cons hlt]
    have ih' := ih (i + 1) (by omega) (by omega)
    rw [show prev l (i + 1) = some l[i] by simp [prev, hlt]] at ih'
    rw [show (((i + 1 : Nat) : Int)) = (i : Int) + 1 by omega] at ih'
    by_cases hb : bad l[i]
    · simp only [hb, if_true, rgo]
      exact Ev.const _
    · simp only [hb, if_false, if_true]
      rw [w64 (n := (i : Int) + 1) (by omega) (by omega), w64 (n := (i : Int) - 1) (by omega) (by omega)]
      by_cases h0 : i = 0
      · subst h0
        simp only [rgo, hb, if_false, prev, if_true, Int.natCast_zero, Int.lt_irrefl, gt_iff_lt]
        exact ih'
      · have hp : (i : Int) - 1 = ((i - 1 : Nat) : Int) := by omega
        rw [hp]
        simp only [if_pos (show (i : Int) > 0 by omega), if_pos (show (0 : Int) ≤ ((i - 1 : Nat) : Int) by omega), if_pos (show ((i - 1 : Nat) : Int) < (l.length : Int) by omega), rd_at (show i - 1 < l.length by omega)]
        refine Ev.bind (order_ev l[i - 1] l[i]) ?_
        rw [show prev l i = some l[i - 1] by simp [prev, h0, show i - 1 < l.length by omega]]
        simp only [rgo, hb, if_false]
        by_cases hlt2 : lt l[i - 1] l[i]
        · rw [if_pos hlt2]
          simp only [if_neg (show ¬ (rides_order_cf l[i - 1] l[i] ≥ 0) by rw [ord_neg]; simpa using hlt2)]
          exact ih'
        · rw [if_neg hlt2]
          simp only [if_pos (show rides_order_cf l[i - 1] l[i] ≥ 0 by rw [ord_neg]; exact hlt2)]
          exact Ev.const _
theorem Right_ev (l : List S28) : Ev (fun k => rides_Right.f k l) (rightS l) := by
  unfold rides_Right.f rightS
  by_cases h : (l.length : Int) > 2000
  · simp only [if_pos h]
    exact Ev.const _
  · simp only [if_neg h]
    exact Right_go l (by omega) l.length 0 (by omega) (by omega)

/-- A store: each ride in its ranges, in order. -/
def store (l : List S28) : Prop := (∀ x ∈ l, ¬ bad x) ∧ l.Pairwise lt
theorem rgo_some {y : S28} {l : List S28} (h : rgo (some y) l = 0) : (∀ x ∈ l, ¬ bad x ∧ lt y x) ∧ l.Pairwise lt := by
  induction l generalizing y with
  | nil => simp
  | cons x r ih =>
    simp only [rgo] at h
    split at h
    · simp at h
    · rename_i hb
      split at h
      · rename_i hlt
        obtain ⟨h1, h2⟩ := ih h
        refine ⟨fun z hz => ?_, List.pairwise_cons.2 ⟨fun z hz => (h1 z hz).2, h2⟩⟩
        rcases List.mem_cons.1 hz with rfl | hz
        · exact ⟨hb, hlt⟩
        · exact ⟨(h1 z hz).1, lt_trans hlt (h1 z hz).2⟩
      · simp at h
theorem rgo_none {l : List S28} (h : rgo none l = 0) : store l := by
  cases l with
  | nil => exact ⟨by simp, List.Pairwise.nil⟩
  | cons x r =>
    simp only [rgo] at h
    split at h
    · simp at h
    · rename_i hb
      obtain ⟨h1, h2⟩ := rgo_some h
      refine ⟨fun z hz => ?_, List.pairwise_cons.2 ⟨fun z hz => (h1 z hz).2, h2⟩⟩
      rcases List.mem_cons.1 hz with rfl | hz
      · exact hb
      · exact (h1 z hz).1
theorem rgo_of {l : List S28} : ∀ {p : Option S28}, (∀ y, p = some y → ∀ x ∈ l, lt y x) → store l → rgo p l = 0 := by
  induction l with
  | nil => intro p _ _; rfl
  | cons x r ih =>
    intro p hp hs
    have hx : ¬ bad x := hs.1 x (by simp)
    have ht := ih (p := some x) (fun y e z hz => by cases e; exact (List.pairwise_cons.1 hs.2).1 z hz) ⟨fun z hz => hs.1 z (by simp [hz]), (List.pairwise_cons.1 hs.2).2⟩
    cases p with
    | none => simp only [rgo, if_neg hx, ht]
    | some y => simp only [rgo, if_neg hx, if_pos (hp y rfl x (by simp)), ht]
theorem rightS_zero {l : List S28} : rightS l = 0 ↔ l.length ≤ 2000 ∧ store l := by
  unfold rightS
  constructor
  · intro h
    split at h
    · simp at h
    · exact ⟨by omega, rgo_none h⟩
  · rintro ⟨h1, h2⟩
    rw [if_neg (by omega)]
    exact rgo_of (fun y e => by cases e) h2

/-! ### Stores of one key once -/
theorem store_uniq {l : List S28} (h : l.Pairwise lt) {x y : S28} (hx : x ∈ l) (hy : y ∈ l) (e : ky x = ky y) : x = y := by
  induction l with
  | nil => simp at hx
  | cons z r ih =>
    obtain ⟨h1, h2⟩ := List.pairwise_cons.1 h
    rcases List.mem_cons.1 hx with rfl | hx' <;> rcases List.mem_cons.1 hy with rfl | hy'
    · rfl
    · exact absurd e (lt_ky (h1 y hy'))
    · exact absurd e.symm (lt_ky (h1 x hx'))
    · exact ih h2 hx' hy'
/-- Two lists in order with the same rides are the same. -/
theorem sorted_ext {l m : List S28} (hl : l.Pairwise lt) (hm : m.Pairwise lt) (h : ∀ x, x ∈ l ↔ x ∈ m) : l = m := by
  have nd : ∀ {l : List S28}, l.Pairwise lt → l.Nodup := fun h => List.Pairwise.imp (S := fun a b => a ≠ b) (fun {a b} hab e => lt_irrefl a (by rw [← e] at hab; exact hab)) h
  have hp : l.Perm m := (List.perm_ext_iff_of_nodup (nd hl) (nd hm)).2 h
  exact hp.eq_of_pairwise (fun a b _ _ hab hba => absurd (lt_trans hab hba) (lt_irrefl a)) hl hm

/-! ### Merging -/
/-- The two lists laid into one, by their order; nothing, where one key has two rides. -/
def mg : List S28 → List S28 → Option (List S28)
  | [], b => some b
  | x :: a, [] => some (x :: a)
  | x :: a, y :: b => if lt x y then (mg a (y :: b)).map (x :: ·) else if lt y x then (mg (x :: a) b).map (y :: ·) else if x ≠ y then none else (mg a b).map (x :: ·)
termination_by a b => a.length + b.length
def conf (a b : List S28) : Prop := ∃ x ∈ a, ∃ y ∈ b, ky x = ky y ∧ x ≠ y
theorem mg_some : ∀ {a b m : List S28}, a.Pairwise lt → b.Pairwise lt → mg a b = some m → m.Pairwise lt ∧ (∀ x, x ∈ m ↔ x ∈ a ∨ x ∈ b) ∧ ¬ conf a b
  | [], b, m, _, hb, h => by
    rw [mg] at h
    obtain rfl := Option.some.inj h
    exact ⟨hb, fun x => by simp, fun ⟨x, hx, _⟩ => by simp at hx⟩
  | x :: a, [], m, ha, _, h => by
    rw [mg] at h
    obtain rfl := Option.some.inj h
    exact ⟨ha, fun x => by simp, fun ⟨x, hx, y, hy, _⟩ => by simp at hy⟩
  | x :: a, y :: b, m, ha, hb, h => by
    obtain ⟨ha1, ha2⟩ := List.pairwise_cons.1 ha
    obtain ⟨hb1, hb2⟩ := List.pairwise_cons.1 hb
    rw [mg] at h
    split at h
    · rename_i hlt
      obtain ⟨m', hm', rfl⟩ := Option.map_eq_some_iff.1 h
      obtain ⟨h1, h2, h3⟩ := mg_some ha2 hb hm'
      refine ⟨List.pairwise_cons.2 ⟨fun z hz => ?_, h1⟩, fun z => ?_, ?_⟩
      · rcases (h2 z).1 hz with hz | hz
        · exact ha1 z hz
        · rcases List.mem_cons.1 hz with rfl | hz
          · exact hlt
          · exact lt_trans hlt (hb1 z hz)
      · rw [List.mem_cons, h2 z, List.mem_cons (a := z) (b := x), or_assoc]
      · rintro ⟨u, hu, v, hv, e, ne⟩
        rcases List.mem_cons.1 hu with rfl | hu
        · rcases List.mem_cons.1 hv with rfl | hv'
          · exact lt_ky hlt e
          · exact lt_ky (lt_trans hlt (hb1 v hv')) e
        · exact h3 ⟨u, hu, v, hv, e, ne⟩
    · rename_i hnlt
      split at h
      · rename_i hlt
        obtain ⟨m', hm', rfl⟩ := Option.map_eq_some_iff.1 h
        obtain ⟨h1, h2, h3⟩ := mg_some ha hb2 hm'
        refine ⟨List.pairwise_cons.2 ⟨fun z hz => ?_, h1⟩, fun z => ?_, ?_⟩
        · rcases (h2 z).1 hz with hz | hz
          · rcases List.mem_cons.1 hz with rfl | hz
            · exact hlt
            · exact lt_trans hlt (ha1 z hz)
          · exact hb1 z hz
        · rw [List.mem_cons, h2 z, List.mem_cons (a := z) (b := y)]
          constructor
          · rintro (h | h | h)
            · exact .inr (.inl h)
            · exact .inl h
            · exact .inr (.inr h)
          · rintro (h | h | h)
            · exact .inr (.inl h)
            · exact .inl h
            · exact .inr (.inr h)
        · rintro ⟨u, hu, v, hv, e, ne⟩
          rcases List.mem_cons.1 hv with rfl | hv
          · rcases List.mem_cons.1 hu with rfl | hu'
            · exact lt_ky hlt e.symm
            · exact lt_ky (lt_trans hlt (ha1 u hu')) e.symm
          · exact h3 ⟨u, hu, v, hv, e, ne⟩
      · rename_i hnlt2
        split at h
        · simp at h
        · rename_i hxy
          have hxy : x = y := Classical.not_not.1 hxy
          subst hxy
          obtain ⟨m', hm', rfl⟩ := Option.map_eq_some_iff.1 h
          obtain ⟨h1, h2, h3⟩ := mg_some ha2 hb2 hm'
          refine ⟨List.pairwise_cons.2 ⟨fun z hz => ?_, h1⟩, fun z => ?_, ?_⟩
          · rcases (h2 z).1 hz with hz | hz
            · exact ha1 z hz
            · exact hb1 z hz
          · rw [List.mem_cons, h2 z, List.mem_cons, List.mem_cons]
            constructor
            · rintro (h | h | h)
              · exact .inl (.inl h)
              · exact .inl (.inr h)
              · exact .inr (.inr h)
            · rintro ((h | h) | h | h)
              · exact .inl h
              · exact .inr (.inl h)
              · exact .inl h
              · exact .inr (.inr h)
          · rintro ⟨u, hu, v, hv, e, ne⟩
            rcases List.mem_cons.1 hu with rfl | hu' <;> rcases List.mem_cons.1 hv with rfl | hv'
            · exact ne rfl
            · exact lt_ky (hb1 v hv') e
            · exact lt_ky (ha1 u hu') e.symm
            · exact h3 ⟨u, hu', v, hv', e, ne⟩
termination_by a b => a.length + b.length
theorem mg_none : ∀ {a b : List S28}, mg a b = none → conf a b
  | [], b, h => by rw [mg] at h; simp at h
  | x :: a, [], h => by rw [mg] at h; simp at h
  | x :: a, y :: b, h => by
    rw [mg] at h
    split at h
    · obtain ⟨u, hu, v, hv, r⟩ := mg_none (Option.map_eq_none_iff.1 h)
      exact ⟨u, List.mem_cons_of_mem _ hu, v, hv, r⟩
    · rename_i h1
      split at h
      · obtain ⟨u, hu, v, hv, r⟩ := mg_none (Option.map_eq_none_iff.1 h)
        exact ⟨u, hu, v, List.mem_cons_of_mem _ hv, r⟩
      · rename_i h2
        split at h
        · rename_i h3
          exact ⟨x, by simp, y, by simp, lt_tri h1 h2, h3⟩
        · obtain ⟨u, hu, v, hv, r⟩ := mg_none (Option.map_eq_none_iff.1 h)
          exact ⟨u, List.mem_cons_of_mem _ hu, v, List.mem_cons_of_mem _ hv, r⟩
termination_by a b => a.length + b.length
theorem mg_conf {a b : List S28} (ha : a.Pairwise lt) (hb : b.Pairwise lt) (h : conf a b) : mg a b = none := by
  cases hm : mg a b with
  | none => rfl
  | some m => exact absurd h (mg_some ha hb hm).2.2
theorem mg_len : ∀ {a b m : List S28}, mg a b = some m → m.length ≤ a.length + b.length ∧ a.length ≤ m.length ∧ b.length ≤ m.length
  | [], b, m, h => by
    rw [mg] at h
    obtain rfl := Option.some.inj h
    simp
  | x :: a, [], m, h => by
    rw [mg] at h
    obtain rfl := Option.some.inj h
    simp
  | x :: a, y :: b, m, h => by
    rw [mg] at h
    split at h
    · obtain ⟨m', hm', rfl⟩ := Option.map_eq_some_iff.1 h
      have := mg_len hm'
      simp only [List.length_cons] at *
      omega
    · split at h
      · obtain ⟨m', hm', rfl⟩ := Option.map_eq_some_iff.1 h
        have := mg_len hm'
        simp only [List.length_cons] at *
        omega
      · split at h
        · simp at h
        · obtain ⟨m', hm', rfl⟩ := Option.map_eq_some_iff.1 h
          have := mg_len hm'
          simp only [List.length_cons] at *
          omega
termination_by a b => a.length + b.length
/-- What Merge returns. -/
def mres (a b : List S28) : List S28 × Int := match mg a b with
  | none => ([], 15)
  | some m => if (m.length : Int) > 2000 then ([], 9) else (m, 0)
theorem conf_symm {a b : List S28} (h : conf a b) : conf b a := by
  obtain ⟨x, hx, y, hy, e, n⟩ := h
  exact ⟨y, hy, x, hx, e.symm, fun h => n h.symm⟩
theorem conf_left {a b m c : List S28} (h : ∀ x, x ∈ m ↔ x ∈ a ∨ x ∈ b) : conf m c ↔ conf a c ∨ conf b c := by
  constructor
  · rintro ⟨x, hx, r⟩
    rcases (h x).1 hx with hx | hx
    · exact .inl ⟨x, hx, r⟩
    · exact .inr ⟨x, hx, r⟩
  · rintro (⟨x, hx, r⟩ | ⟨x, hx, r⟩)
    · exact ⟨x, (h x).2 (.inl hx), r⟩
    · exact ⟨x, (h x).2 (.inr hx), r⟩
theorem mres_none {a b : List S28} (ha : a.Pairwise lt) (hb : b.Pairwise lt) (h : conf a b) : mres a b = ([], 15) := by rw [mres, mg_conf ha hb h]
theorem mres_some {a b : List S28} (ha : a.Pairwise lt) (hb : b.Pairwise lt) (h : ¬ conf a b) (hl : a.length + b.length ≤ 2000) :
    ∃ m, mres a b = (m, 0) ∧ m.Pairwise lt ∧ (∀ x, x ∈ m ↔ x ∈ a ∨ x ∈ b) ∧ m.length ≤ a.length + b.length ∧ a.length ≤ m.length := by
  cases hm : mg a b with
  | none => exact absurd (mg_none hm) h
  | some m =>
    obtain ⟨h1, h2, _⟩ := mg_some ha hb hm
    obtain ⟨h3, h4, _⟩ := mg_len hm
    refine ⟨m, ?_, h1, h2, h3, h4⟩
    rw [mres, hm]
    simp only
    rw [if_neg (by omega)]
theorem not_conf_self {a : List S28} (ha : a.Pairwise lt) : ¬ conf a a := by
  rintro ⟨x, hx, y, hy, e, n⟩
  exact n (store_uniq ha hx hy e)
theorem not_conf_nil (a : List S28) : ¬ conf a [] := by
  rintro ⟨x, hx, y, hy, _⟩
  simp at hy
theorem store_of {m a b : List S28} (hm : m.Pairwise lt) (h : ∀ x, x ∈ m ↔ x ∈ a ∨ x ∈ b) (ha : store a) (hb : store b) : store m :=
  ⟨fun x hx => ((h x).1 hx).elim (ha.1 x) (hb.1 x), hm⟩
/-- The machine's '==' of two rides. -/
theorem eq_s28 (x y : S28) : ((x.f0 == y.f0 && (x.f1 == y.f1 && (x.f2 == y.f2 && (x.f3 == y.f3 && (x.f4 == y.f4 && (x.f5 == y.f5 && (x.f6 == y.f6))))))) = true) ↔ x = y := by
  simp only [Bool.and_eq_true, beq_iff_eq]
  constructor
  · rintro ⟨h0, h1, h2, h3, h4, h5, h6⟩
    exact S28.ext h0 h1 h2 h3 h4 h5 h6
  · rintro rfl
    simp
end Go.Proofs.Ytgohhekihfilbaa.Rl
