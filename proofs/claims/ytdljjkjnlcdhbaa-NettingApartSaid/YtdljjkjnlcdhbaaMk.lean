/- Netting: sets of positions as masks, what is picked by a mask, sums over it; no program in sight. -/
import Derived.Test.YtdljjkjnlcdhbaaWMore
namespace Go.Proofs.Ytdljjkjnlcdhbaa.Mk
open Go Go.RowKit Go.Proofs.YtdljjkjnlcdhbaaW.PrintWords Go.Proofs.YtdljjkjnlcdhbaaW.PrintMore
set_option linter.unusedSimpArgs false

/-! ### The machine's words on masks -/
theorem wrap_small {n : Int} (h0 : 0 ≤ n) (h1 : n < 9223372036854775808) : IntKind.i64.wrap n = n := by
  have e : n % 2 ^ IntKind.i64.bits = n := by
    have : (2 : Int) ^ IntKind.i64.bits = 18446744073709551616 := rfl
    rw [this]; omega
  show (let m := n % 2 ^ IntKind.i64.bits; if (IntKind.i64.signed && decide (m ≥ 2 ^ (IntKind.i64.bits - 1))) = true then m - 2 ^ IntKind.i64.bits else m) = n
  rw [e]
  have : ¬ (n ≥ (2 : Int) ^ (IntKind.i64.bits - 1)) := by
    have : (2 : Int) ^ (IntKind.i64.bits - 1) = 9223372036854775808 := rfl
    rw [this]; omega
  simp [this]
theorem ofInt_nat (m : Nat) : BitVec.ofInt 64 (m : Int) = BitVec.ofNat 64 m := by
  apply BitVec.eq_of_toNat_eq
  simp [BitVec.toNat_ofInt, BitVec.toNat_ofNat]
/-- What is in m and not in s. -/
def df (m s : Nat) : Nat := m ^^^ (m &&& s)
theorem df_bit (m s i : Nat) : (df m s).testBit i = (m.testBit i && !s.testBit i) := by
  unfold df
  rw [Nat.testBit_xor, Nat.testBit_and]
  cases m.testBit i <;> cases s.testBit i <;> rfl
theorem and_i64 {m s : Nat} (hm : m < 9223372036854775808) (hs : s < 9223372036854775808) : Go.bits .and .i64 (m : Int) (s : Int) = ((m &&& s : Nat) : Int) := by
  show IntKind.i64.wrap (((BitVec.ofInt 64 (m : Int) &&& BitVec.ofInt 64 (s : Int)).toNat : Nat) : Int) = _
  rw [ofInt_nat, ofInt_nat, BitVec.toNat_and, BitVec.toNat_ofNat, BitVec.toNat_ofNat, Nat.mod_eq_of_lt (by omega), Nat.mod_eq_of_lt (by omega)]
  have := Nat.and_le_left (n := m) (m := s)
  exact wrap_small (by omega) (by omega)
theorem df_le (m s : Nat) : df m s ≤ m := by
  have key : df m s = m &&& df m s := by
    apply Nat.eq_of_testBit_eq
    intro i
    rw [Nat.testBit_and, df_bit]
    cases m.testBit i <;> cases s.testBit i <;> rfl
  rw [key]
  exact Nat.and_le_left
theorem andNot_i64 {m s : Nat} (hm : m < 9223372036854775808) : Go.bits .andNot .i64 (m : Int) (s : Int) = ((df m s : Nat) : Int) := by
  show IntKind.i64.wrap (((BitVec.ofInt 64 (m : Int) &&& ~~~ BitVec.ofInt 64 (s : Int)).toNat : Nat) : Int) = _
  have e : (BitVec.ofInt 64 (m : Int) &&& ~~~ BitVec.ofInt 64 (s : Int)).toNat = df m s := by
    apply Nat.eq_of_testBit_eq
    intro i
    rw [ofInt_nat, ofInt_nat, BitVec.testBit_toNat, BitVec.getLsbD_and, BitVec.getLsbD_not, BitVec.getLsbD_ofNat, BitVec.getLsbD_ofNat, df_bit]
    by_cases hi : i < 64
    · simp [hi]
    · have : m.testBit i = false := Nat.testBit_lt_two_pow (Nat.lt_of_lt_of_le (show m < 2 ^ 63 by omega) (Nat.pow_le_pow_right (by omega) (by omega)))
      simp [hi, this]
  rw [e]
  have := df_le m s
  exact wrap_small (by omega) (by omega)
theorem shr_i64 (m i : Nat) (hi : i < 64) : shr .i64 (m : Int) (i : Int) = ((m >>> i : Nat) : Int) := by
  unfold shr
  have : min (i : Int).toNat IntKind.i64.bits = i := by
    have : IntKind.i64.bits = 64 := rfl
    omega
  rw [this, Nat.shiftRight_eq_div_pow]
  simp
/-- The machine's question whether a bit is set. -/
theorem bit_i64 {m i : Nat} (hm : m < 9223372036854775808) (hi : i < 64) : (Go.bits .and .i64 (shr .i64 (m : Int) (i : Int)) 1 = 1) ↔ m.testBit i = true := by
  rw [shr_i64 m i hi]
  have hle : m >>> i ≤ m := by rw [Nat.shiftRight_eq_div_pow]; exact Nat.div_le_self _ _
  have := and_i64 (m := m >>> i) (s := 1) (by omega) (by omega)
  rw [show ((1 : Nat) : Int) = 1 from rfl] at this
  rw [this]
  unfold Nat.testBit
  rw [Nat.and_comm 1 (m >>> i), Nat.and_one_is_mod]
  have hz : (m >>> i) % 2 < 2 := Nat.mod_lt _ (by omega)
  generalize (m >>> i) % 2 = z at *
  rw [bne_iff_ne]
  omega
theorem shl_one (n : Nat) (hn : n < 63) : shl .i64 1 (n : Int) = ((2 ^ n : Nat) : Int) := by
  unfold shl
  have : min (n : Int).toNat IntKind.i64.bits = n := by
    have : IntKind.i64.bits = 64 := rfl
    omega
  rw [this, Int.one_mul]
  have h2 : (2 : Nat) ^ n ≤ 2 ^ 62 := Nat.pow_le_pow_right (by omega) (by omega)
  have e : (2 : Int) ^ n = ((2 ^ n : Nat) : Int) := by simp
  rw [e]
  have h3 : ((2 ^ n : Nat) : Int) ≤ ((2 ^ 62 : Nat) : Int) := Int.ofNat_le.2 h2
  have h4 : ((2 ^ 62 : Nat) : Int) = 4611686018427387904 := rfl
  have h5 : (0 : Int) ≤ ((2 ^ n : Nat) : Int) := Int.natCast_nonneg _
  generalize ((2 ^ n : Nat) : Int) = z at *
  exact wrap_small (by omega) (by omega)

/-! ### A set in a set -/
def Sub (s m : Nat) : Prop := ∀ i, s.testBit i = true → m.testBit i = true
theorem Sub.refl (m : Nat) : Sub m m := fun _ h => h
theorem Sub.zero (m : Nat) : Sub 0 m := fun i h => by simp at h
theorem Sub.and (s m : Nat) : Sub (s &&& m) m := fun i h => by
  rw [Nat.testBit_and, Bool.and_eq_true] at h
  exact h.2
theorem Sub.df (m s : Nat) : Sub (df m s) m := fun i h => by
  rw [df_bit, Bool.and_eq_true] at h
  exact h.1
theorem Sub.trans {a b c : Nat} (h : Sub a b) (h' : Sub b c) : Sub a c := fun i hi => h' i (h i hi)
theorem Sub.half {s m : Nat} (h : Sub s m) : Sub (s / 2) (m / 2) := fun i hi => by
  rw [← Nat.testBit_succ] at hi ⊢
  exact h _ hi
theorem Sub.low {s m : Nat} (h : Sub s m) (hs : s % 2 = 1) : m % 2 = 1 := by
  have := h 0 (by simp [Nat.testBit_zero, hs])
  simpa [Nat.testBit_zero] using this
theorem Sub.and_eq {s m : Nat} (h : Sub s m) : s &&& m = s := by
  apply Nat.eq_of_testBit_eq
  intro i
  rw [Nat.testBit_and]
  cases hs : s.testBit i
  · rfl
  · rw [h i hs]; rfl
theorem Sub.le {s m : Nat} (h : Sub s m) : s ≤ m := by rw [← h.and_eq]; exact Nat.and_le_right
theorem df_half (m s : Nat) : df m s / 2 = df (m / 2) (s / 2) := by
  apply Nat.eq_of_testBit_eq
  intro i
  rw [← Nat.testBit_succ, df_bit, df_bit, Nat.testBit_succ, Nat.testBit_succ]
theorem df_low (m s : Nat) : df m s % 2 = 1 ↔ m % 2 = 1 ∧ ¬ s % 2 = 1 := by
  have := df_bit m s 0
  simp only [Nat.testBit_zero] at this
  constructor
  · intro h; simp [h] at this; omega
  · intro h; simp [h.1, h.2] at this; omega
theorem df_self (m : Nat) : df m m = 0 := by
  apply Nat.eq_of_testBit_eq
  intro i
  rw [df_bit]; simp
theorem df_zero (m : Nat) : df m 0 = m := by
  apply Nat.eq_of_testBit_eq
  intro i
  rw [df_bit]; simp
theorem df_df {m s : Nat} (h : Sub s m) : df m (df m s) = s := by
  apply Nat.eq_of_testBit_eq
  intro i
  rw [df_bit, df_bit]
  cases hs : s.testBit i
  · cases m.testBit i <;> rfl
  · rw [h i hs]; rfl
theorem eq_of_df {m s : Nat} (h : Sub s m) (h0 : df m s = 0) : s = m := by
  have := df_df h
  rw [h0, df_zero] at this
  exact this.symm
theorem df_lt {m s : Nat} (h : Sub s m) (h0 : s ≠ 0) : df m s < m := by
  have h1 := df_le m s
  by_cases e : df m s = m
  · have := df_df h
    rw [e, df_self] at this
    exact absurd this.symm h0
  · omega
/-- The next set below s within m: none is left out. -/
theorem nx (s : Nat) : ∀ {m t : Nat}, Sub s m → Sub t m → t < s → t ≤ ((s - 1) &&& m) := by
  induction s using Nat.strongRecOn with
  | ind s ih =>
    intro m t hs ht hlt
    have hd : ((s - 1) &&& m) / 2 = ((s - 1) / 2) &&& (m / 2) := Nat.and_div_two
    have hb : ((s - 1) &&& m) % 2 = 1 ↔ (s - 1) % 2 = 1 ∧ m % 2 = 1 := by
      have := Nat.testBit_and (s - 1) m 0
      rw [Bool.eq_iff_iff] at this
      simpa only [Nat.testBit_zero, Bool.and_eq_true, decide_eq_true_eq] using this
    by_cases hc : s % 2 = 1
    · have h1 : (s - 1) / 2 = s / 2 := by omega
      rw [h1, hs.half.and_eq] at hd
      omega
    · have h1 : (s - 1) / 2 = s / 2 - 1 := by omega
      rw [h1] at hd
      have := ih (s / 2) (by omega) hs.half ht.half (by omega)
      have hl := ht.low
      omega

/-! ### What a set picks -/
def pk {α : Type} : List α → Nat → List α
  | [], _ => []
  | x :: l, m => if m % 2 = 1 then x :: pk l (m / 2) else pk l (m / 2)
def sm {α : Type} (f : α → Int) : List α → Int
  | [] => 0
  | x :: l => f x + sm f l
theorem sm_append {α : Type} (f : α → Int) (a b : List α) : sm f (a ++ b) = sm f a + sm f b := by
  induction a with
  | nil => simp [sm]
  | cons x l ih => simp only [List.cons_append, sm, ih]; omega
theorem sm_map {α β : Type} (f : β → Int) (g : α → β) (l : List α) : sm f (l.map g) = sm (fun x => f (g x)) l := by
  induction l with
  | nil => rfl
  | cons x l ih => simp only [List.map_cons, sm, ih]
theorem sm_congr {α : Type} {f g : α → Int} {l : List α} (h : ∀ x ∈ l, f x = g x) : sm f l = sm g l := by
  induction l with
  | nil => rfl
  | cons x l ih => simp only [sm]; rw [h x (by simp), ih (fun y hy => h y (by simp [hy]))]
theorem sm_add {α : Type} (f g : α → Int) (l : List α) : sm (fun x => f x + g x) l = sm f l + sm g l := by
  induction l with
  | nil => rfl
  | cons x l ih => simp only [sm, ih]; omega
theorem sm_neg {α : Type} (f : α → Int) (l : List α) : sm (fun x => - f x) l = - sm f l := by
  induction l with
  | nil => rfl
  | cons x l ih => simp only [sm, ih]; omega
theorem sm_zero {α : Type} {f : α → Int} {l : List α} (h : ∀ x ∈ l, f x = 0) : sm f l = 0 := by
  induction l with
  | nil => rfl
  | cons x l ih => simp only [sm]; rw [h x (by simp), ih (fun y hy => h y (by simp [hy]))]; rfl
theorem sm_one {α : Type} (l : List α) : sm (fun _ => 1) l = (l.length : Int) := by
  induction l with
  | nil => rfl
  | cons x l ih => simp only [sm, ih, List.length_cons]; omega
theorem sm_perm {α : Type} {f : α → Int} {a b : List α} (h : a.Perm b) : sm f a = sm f b := by
  induction h with
  | nil => rfl
  | cons x _ ih => simp only [sm, ih]
  | swap x y l => simp only [sm]; omega
  | trans _ _ ih1 ih2 => exact ih1.trans ih2
theorem sm_filter {α : Type} {f : α → Int} {p : α → Bool} {l : List α} (h : ∀ x ∈ l, p x = false → f x = 0) : sm f (l.filter p) = sm f l := by
  induction l with
  | nil => rfl
  | cons x l ih =>
    have ih := ih (fun y hy => h y (by simp [hy]))
    rw [List.filter_cons]
    split
    · simp only [sm, ih]
    · rename_i hp
      simp only [sm, ih, h x (by simp) (by simpa using hp)]
      omega
theorem sm_bound {α : Type} {f : α → Int} {B : Int} {l : List α} (h : ∀ x ∈ l, -B ≤ f x ∧ f x ≤ B) : -(B * l.length) ≤ sm f l ∧ sm f l ≤ B * l.length := by
  induction l with
  | nil => simp [sm]
  | cons x l ih =>
    have ih := ih (fun y hy => h y (by simp [hy]))
    have hx := h x (by simp)
    simp only [sm, List.length_cons, Int.natCast_add, Int.mul_add]
    omega
theorem sm_swap {α β : Type} (f : α → β → Int) (a : List α) (b : List β) : sm (fun x => sm (f x) b) a = sm (fun y => sm (fun x => f x y) a) b := by
  induction a with
  | nil => simp only [sm]; exact (sm_zero (fun _ _ => rfl)).symm
  | cons x l ih => simp only [sm, ih]; rw [sm_add]
theorem sm_at {l : List Int} (hn : l.Nodup) {v : Int} (hv : v ∈ l) (g : Int → Int) : sm (fun o => if o = v then g o else 0) l = g v := by
  induction l with
  | nil => simp at hv
  | cons x l ih =>
    rw [List.nodup_cons] at hn
    by_cases e : x = v
    · subst e
      simp only [sm, if_true]
      rw [sm_zero (fun y hy => if_neg (fun (e : y = x) => hn.1 (e ▸ hy)))]
      omega
    · simp only [sm, if_neg e]
      have hv' : v ∈ l := by
        rcases List.mem_cons.1 hv with h | h
        · exact absurd h.symm e
        · exact h
      rw [ih hn.2 hv']
      omega
theorem pk_nil {α : Type} (l : List α) : pk l 0 = [] := by
  induction l with
  | nil => rfl
  | cons x l ih => simp [pk, ih]
theorem pk_full {α : Type} (l : List α) : pk l (2 ^ l.length - 1) = l := by
  induction l with
  | nil => rfl
  | cons x l ih =>
    have h1 : 2 ^ (x :: l).length = 2 * 2 ^ l.length := by rw [List.length_cons, Nat.pow_succ]; omega
    have h2 : 0 < 2 ^ l.length := Nat.pow_pos (by omega)
    rw [h1]
    unfold pk
    rw [if_pos (by omega), show (2 * 2 ^ l.length - 1) / 2 = 2 ^ l.length - 1 by omega, ih]
theorem pk_mem {α : Type} {l : List α} : ∀ {m : Nat} {x : α}, x ∈ pk l m → x ∈ l := by
  induction l with
  | nil => intro m x h; simp [pk] at h
  | cons y l ih =>
    intro m x h
    unfold pk at h
    split at h
    · rcases List.mem_cons.1 h with rfl | h
      · simp
      · simp [ih h]
    · simp [ih h]
theorem pk_len {α : Type} (l : List α) : ∀ m : Nat, (pk l m).length ≤ l.length := by
  induction l with
  | nil => intro m; simp [pk]
  | cons y l ih => intro m; unfold pk; split <;> simp only [List.length_cons] <;> have := ih (m / 2) <;> omega
theorem pk_split {α : Type} (f : α → Int) (l : List α) : ∀ {m s : Nat}, Sub s m → sm f (pk l m) = sm f (pk l s) + sm f (pk l (df m s)) := by
  induction l with
  | nil => intro m s _; simp [pk, sm]
  | cons x l ih =>
    intro m s h
    have ih := ih h.half
    have hd := df_low m s
    unfold pk
    rw [df_half]
    by_cases hs : s % 2 = 1
    · have hm := h.low hs
      rw [if_pos hm, if_pos hs, if_neg (by rw [hd]; omega)]
      simp only [sm, ih]; omega
    · by_cases hm : m % 2 = 1
      · rw [if_pos hm, if_neg hs, if_pos (by rw [hd]; omega)]
        simp only [sm, ih]; omega
      · rw [if_neg hm, if_neg hs, if_neg (by rw [hd]; omega)]
        exact ih
theorem pk_mem_sub {α : Type} {l : List α} : ∀ {m s : Nat}, Sub s m → ∀ {x : α}, x ∈ pk l s → x ∈ pk l m := by
  induction l with
  | nil => intro m s _ x h; simp [pk] at h
  | cons y l ih =>
    intro m s hs x h
    have ih := ih hs.half (x := x)
    unfold pk at h ⊢
    by_cases h1 : s % 2 = 1
    · rw [if_pos h1] at h
      rw [if_pos (hs.low h1)]
      rcases List.mem_cons.1 h with rfl | h
      · simp
      · simp [ih h]
    · rw [if_neg h1] at h
      split
      · simp [ih h]
      · exact ih h
/-- What s and what the rest pick have no two of one key. -/
theorem pk_disj {α β : Type} {key : α → β} {l : List α} (hn : (l.map key).Nodup) : ∀ {m s : Nat} {x y : α}, x ∈ pk l s → y ∈ pk l (df m s) → key x ≠ key y := by
  induction l with
  | nil => intro m s x y h; simp [pk] at h
  | cons z l ih =>
    intro m s x y hx hy
    rw [List.map_cons, List.nodup_cons] at hn
    have ih := ih hn.2 (m := m / 2) (s := s / 2) (x := x) (y := y)
    have hd := df_low m s
    have fresh : ∀ w, w ∈ l → key z ≠ key w := fun w hw e => hn.1 (e ▸ List.mem_map_of_mem hw)
    unfold pk at hx hy
    rw [df_half] at hy
    by_cases hs : s % 2 = 1
    · rw [if_pos hs] at hx
      rw [if_neg (by rw [hd]; omega)] at hy
      rcases List.mem_cons.1 hx with rfl | hx
      · exact fresh _ (pk_mem hy)
      · exact ih hx hy
    · rw [if_neg hs] at hx
      split at hy
      · rcases List.mem_cons.1 hy with rfl | hy
        · exact fun e => fresh _ (pk_mem hx) e.symm
        · exact ih hx hy
      · exact ih hx hy
theorem pk_ne {α : Type} {l : List α} : ∀ {m : Nat}, m < 2 ^ l.length → m ≠ 0 → pk l m ≠ [] := by
  induction l with
  | nil => intro m h h0; simp at h; omega
  | cons x l ih =>
    intro m h h0
    unfold pk
    split
    · simp
    · rw [List.length_cons, Nat.pow_succ] at h
      exact ih (by omega) (by omega)
theorem pk_map {α β : Type} (g : α → β) (l : List α) : ∀ m : Nat, pk (l.map g) m = (pk l m).map g := by
  induction l with
  | nil => intro m; rfl
  | cons x l ih => intro m; simp only [List.map_cons, pk]; split <;> simp [ih]
theorem pk_take {α : Type} (l : List α) : ∀ (m i : Nat) (h : i < l.length), pk (l.take (i + 1)) m = pk (l.take i) m ++ (if m.testBit i = true then [l[i]] else []) := by
  induction l with
  | nil => intro m i h; simp at h
  | cons x l ih =>
    intro m i h
    cases i with
    | zero => simp [pk, Nat.testBit_zero]
    | succ i =>
      have := ih (m / 2) i (by simpa using h)
      simp only [List.take_succ_cons, pk, this, Nat.testBit_succ, List.getElem_cons_succ]
      split <;> simp
theorem pk_nodup {α : Type} {l : List α} (h : l.Nodup) : ∀ m : Nat, (pk l m).Nodup := by
  induction l with
  | nil => intro m; simp [pk]
  | cons x l ih =>
    intro m
    rw [List.nodup_cons] at h
    unfold pk
    split
    · rw [List.nodup_cons]; exact ⟨fun hx => h.1 (pk_mem hx), ih h.2 _⟩
    · exact ih h.2 _
theorem pk_sub {α : Type} {l : List α} : ∀ m : Nat, (pk l m).Sublist l := by
  induction l with
  | nil => intro m; exact List.nil_sublist _
  | cons x l ih =>
    intro m
    unfold pk
    split
    · exact (ih _).cons_cons _
    · exact (ih _).cons _

/-! ### Division into groups -/
def Parts {α : Type} (f : α → Int) (l : List α) : Nat → Nat → Prop
  | m, 0 => m = 0
  | m, k + 1 => ∃ s, Sub s m ∧ s ≠ 0 ∧ sm f (pk l s) = 0 ∧ Parts f l (df m s) k
theorem Parts.sum {α : Type} {f : α → Int} {l : List α} : ∀ {k m : Nat}, Parts f l m k → sm f (pk l m) = 0 := by
  intro k
  induction k with
  | zero => intro m h; rw [show m = 0 from h, pk_nil]; rfl
  | succ k ih =>
    rintro m ⟨s, hs, _, h0, hp⟩
    rw [pk_split f l hs, h0, ih hp]; rfl
theorem Parts.one {α : Type} {f : α → Int} {l : List α} {m : Nat} (h0 : m ≠ 0) (h : sm f (pk l m) = 0) : Parts f l m 1 :=
  ⟨m, Sub.refl m, h0, h, df_self m⟩
theorem Parts.map {α β : Type} {f : α → Int} {g : β → Int} {e : α → β} {l : List α} (h : ∀ s, sm f (pk l s) = 0 → sm g (pk (l.map e) s) = 0) : ∀ {k m : Nat}, Parts f l m k → Parts g (l.map e) m k := by
  intro k
  induction k with
  | zero => intro m hp; exact hp
  | succ k ih =>
    rintro m ⟨s, hs, h0, hz, hp⟩
    exact ⟨s, hs, h0, h s hz, ih hp⟩
/-- Groups of positions that are not 0 have two positions each. -/
theorem Parts.two {α : Type} {f : α → Int} {l : List α} (hf : ∀ x ∈ l, f x ≠ 0) : ∀ {k m : Nat}, m < 2 ^ l.length → Parts f l m k → 2 * k ≤ (pk l m).length := by
  intro k
  induction k with
  | zero => intro m _ _; omega
  | succ k ih =>
    rintro m hm ⟨s, hs, h0, hz, hp⟩
    have ih := ih (Nat.lt_of_le_of_lt (df_le m s) hm) hp
    have hl := pk_split (fun _ => 1) l hs
    rw [sm_one, sm_one, sm_one] at hl
    have : 2 ≤ (pk l s).length := by
      have hne := pk_ne (Nat.lt_of_le_of_lt hs.le hm) h0
      match he : pk l s with
      | [] => exact absurd he hne
      | [x] =>
        rw [he] at hz
        simp only [sm] at hz
        exact absurd (by omega : f x = 0) (hf x (pk_mem (m := s) (by rw [he]; simp)))
      | _ :: _ :: _ => simp only [List.length_cons]; omega
    omega
/-- What the set of a predicate of the elements picks. -/
def fm {α : Type} (l : List α) (p : α → Bool) : Nat := match l with
  | [] => 0
  | x :: r => (if p x = true then 1 else 0) + 2 * fm r p
theorem fm_pk {α : Type} (p : α → Bool) (l : List α) : pk l (fm l p) = l.filter p := by
  induction l with
  | nil => rfl
  | cons x l ih =>
    unfold fm pk
    rw [List.filter_cons]
    by_cases h : p x = true
    · simp only [h, if_true]
      rw [if_pos (by omega), show (1 + 2 * fm l p) / 2 = fm l p by omega, ih]
    · rw [if_neg h, if_neg h, if_neg (by omega), show (0 + 2 * fm l p) / 2 = fm l p by omega, ih]
theorem fm_bit {α : Type} (p : α → Bool) (l : List α) : ∀ i : Nat, (fm l p).testBit i = (match l[i]? with | some x => p x | none => false) := by
  induction l with
  | nil => intro i; simp [fm]
  | cons x l ih =>
    intro i
    cases i with
    | zero => rw [Nat.testBit_zero]; unfold fm; cases h : p x <;> simp [h] <;> omega
    | succ i =>
      rw [Nat.testBit_succ]
      have : fm (x :: l) p / 2 = fm l p := by rw [fm]; split <;> omega
      rw [this, ih]
      simp
theorem fm_sub {α : Type} {p q : α → Bool} {l : List α} (h : ∀ x ∈ l, p x = true → q x = true) : Sub (fm l p) (fm l q) := by
  intro i hi
  rw [fm_bit] at hi ⊢
  cases e : l[i]? with
  | none => rw [e] at hi; simp at hi
  | some x => rw [e] at hi; exact h x (List.mem_of_getElem? e) hi
theorem fm_df {α : Type} (p q : α → Bool) (l : List α) : df (fm l p) (fm l q) = fm l (fun x => p x && !q x) := by
  apply Nat.eq_of_testBit_eq
  intro i
  rw [df_bit, fm_bit, fm_bit, fm_bit]
  cases l[i]? <;> rfl
theorem fm_congr {α : Type} {p q : α → Bool} {l : List α} (h : ∀ x ∈ l, p x = q x) : fm l p = fm l q := by
  apply Nat.eq_of_testBit_eq
  intro i
  rw [fm_bit, fm_bit]
  cases e : l[i]? with
  | none => rfl
  | some x => exact h x (List.mem_of_getElem? e)
theorem fm_true {α : Type} (l : List α) : fm l (fun _ => true) = 2 ^ l.length - 1 := by
  induction l with
  | nil => rfl
  | cons x l ih =>
    have h2 : 0 < 2 ^ l.length := Nat.pow_pos (by omega)
    rw [fm, ih, List.length_cons, Nat.pow_succ]
    simp
    omega
theorem fm_zero {α : Type} {p : α → Bool} {l : List α} (h : ∀ x ∈ l, p x = false) : fm l p = 0 := by
  apply Nat.eq_of_testBit_eq
  intro i
  rw [fm_bit]
  cases e : l[i]? with
  | none => simp
  | some x => simp [h x (List.mem_of_getElem? e)]
theorem fm_ne {α : Type} {p : α → Bool} {l : List α} {x : α} (hx : x ∈ l) (h : p x = true) : fm l p ≠ 0 := by
  intro e
  have := fm_pk p l
  rw [e, pk_nil] at this
  have : x ∈ l.filter p := List.mem_filter.2 ⟨hx, h⟩
  simp_all
/-- Labels make groups. -/
theorem Parts.labels {α : Type} {f : α → Int} {l : List α} (c : α → Nat) : ∀ {js : List Nat}, js.Nodup → (∀ j ∈ js, (∃ x ∈ l, c x = j) ∧ sm f (l.filter (fun x => decide (c x = j))) = 0) → Parts f l (fm l (fun x => js.contains (c x))) js.length := by
  intro js
  induction js with
  | nil => intro _ _; show fm l _ = 0; exact fm_zero (fun _ _ => rfl)
  | cons j js ih =>
    intro hn h
    rw [List.nodup_cons] at hn
    obtain ⟨⟨x, hx, hxj⟩, hz⟩ := h j (by simp)
    refine ⟨fm l (fun x => decide (c x = j)), fm_sub (fun y _ hy => by simp_all), fm_ne hx (by simpa using hxj), ?_, ?_⟩
    · rw [fm_pk]; exact hz
    · rw [fm_df]
      have e : fm l (fun x => ((j :: js).contains (c x)) && !(decide (c x = j))) = fm l (fun x => js.contains (c x)) := by
        refine fm_congr (fun y _ => ?_)
        rw [List.contains_cons]
        by_cases e : c y = j
        · have : js.contains (c y) = false := by rw [e]; simpa using hn.1
          simp [e]
          simpa using hn.1
        · simp [e]
      rw [e]
      exact ih hn.2 (fun i hi => h i (by simp [hi]))
end Go.Proofs.Ytdljjkjnlcdhbaa.Mk
