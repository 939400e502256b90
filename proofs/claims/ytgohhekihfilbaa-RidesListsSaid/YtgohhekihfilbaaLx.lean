/- The order of lists of whole numbers of one length, as a comparison: below 0, 0, above 0. -/
import Derived.Shelf.SlSortCmp.Insertion
namespace Go.Proofs.Ytgohhekihfilbaa.Lx
open Go.Sort

def lexL : List Int → List Int → Int
  | a :: s, b :: t => if a < b then -1 else if b < a then 1 else lexL s t
  | _, _ => 0

theorem lexL_self : ∀ l, lexL l l = 0
  | [] => rfl
  | a :: s => by simp [lexL, lexL_self s]
theorem lexL_neg : ∀ {a b : List Int}, lexL b a = - lexL a b
  | [], [] => rfl
  | [], _ :: _ => rfl
  | _ :: _, [] => rfl
  | x :: s, y :: t => by
    have ih := @lexL_neg s t
    simp only [lexL]
    by_cases h1 : x < y
    · rw [if_neg (by omega), if_pos h1, if_pos h1]; rfl
    · by_cases h2 : y < x
      · rw [if_pos h2, if_neg h1, if_pos h2]
      · rw [if_neg h2, if_neg h1, if_neg h1, if_neg h2, ih]
theorem lexL_zero : ∀ {a b : List Int}, a.length = b.length → lexL a b = 0 → a = b
  | [], [], _, _ => rfl
  | [], _ :: _, h, _ => by simp at h
  | _ :: _, [], h, _ => by simp at h
  | x :: s, y :: t, h, h0 => by
    simp only [lexL] at h0
    split at h0
    · omega
    · split at h0
      · omega
      · have : x = y := by omega
        rw [this, lexL_zero (by simpa using h) h0]
theorem lexL_trans : ∀ {a b c : List Int}, a.length = b.length → b.length = c.length → lexL a b ≤ 0 → lexL b c ≤ 0 → lexL a c ≤ 0 ∧ (lexL a b < 0 ∨ lexL b c < 0 → lexL a c < 0)
  | [], [], [], _, _, _, _ => by simp [lexL]
  | [], [], _ :: _, _, h, _, _ => by simp at h
  | [], _ :: _, _, h, _, _, _ => by simp at h
  | _ :: _, [], _, h, _, _, _ => by simp at h
  | _ :: _, _ :: _, [], _, h, _, _ => by simp at h
  | x :: s, y :: t, z :: u, h, h', h0, h1 => by
    have ih := @lexL_trans s t u (by simpa using h) (by simpa using h')
    simp only [lexL] at h0 h1 ⊢
    by_cases a1 : x < y
    · by_cases a2 : y < z
      · simp [show x < z by omega]
      · by_cases a3 : z < y
        · simp [a2, a3] at h1
        · simp [show x < z by omega]
    · by_cases a4 : y < x
      · simp [a1, a4] at h0
      · obtain rfl : x = y := by omega
        simp only [Int.lt_irrefl, if_false] at h0 ⊢
        by_cases a2 : x < z
        · simp [a2]
        · by_cases a3 : z < x
          · simp [a2, a3] at h1
          · simp only [a2, a3, if_false] at h1 ⊢
            exact ih h0 h1
theorem swo {α : Type} (ks : α → List Int) (n : Nat) (hn : ∀ x, (ks x).length = n) : SWO (ltOf fun x y => lexL (ks x) (ks y)) where
  irrefl := fun x => by simp [ltOf, lexL_self]
  trans := fun x y z h1 h2 => by
    simp only [ltOf, decide_eq_true_eq] at *
    exact (lexL_trans (by rw [hn, hn]) (by rw [hn, hn]) (by omega) (by omega)).2 (.inl h1)
  ntrans := fun x y z h1 h2 => by
    simp only [ltOf, decide_eq_false_iff_not] at *
    rw [lexL_neg] at h1 h2 ⊢
    have h3 := (lexL_trans (a := ks z) (b := ks y) (c := ks x) (by rw [hn, hn]) (by rw [hn, hn]) (by omega) (by omega)).1
    omega
/-- Sorted lists with the same elements, no two of them with one key: the same list. -/
theorem sorted_unique {α : Type} (ks : α → List Int) (n : Nat) (hn : ∀ x, (ks x).length = n) : ∀ (l m : List α), l.Perm m → (∀ x ∈ l, ∀ y ∈ l, ks x = ks y → x = y) → l.Pairwise (fun x y => ¬ lexL (ks y) (ks x) < 0) → m.Pairwise (fun x y => ¬ lexL (ks y) (ks x) < 0) → l = m := by
  intro l m hp hk h1 h2
  refine List.Perm.eq_of_pairwise ?_ h1 h2 hp
  intro a b ha hb hab hba
  have hb' : b ∈ l := hp.mem_iff.2 hb
  refine hk a ha b hb' (lexL_zero (by rw [hn, hn]) ?_)
  rw [lexL_neg] at hab
  omega
end Go.Proofs.Ytgohhekihfilbaa.Lx
